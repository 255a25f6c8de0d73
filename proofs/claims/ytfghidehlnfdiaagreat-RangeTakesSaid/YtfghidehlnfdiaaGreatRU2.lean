/- The verification conditions of some functions, printed by a program of ours (wip/PrintVc.lean). -/
/- Contracts: the verifier in memory; under. -/
/- Contracts: value, own, covered. -/
import Derived.Test.YtfghidehlnfdiaaGreatRG5
import Derived.Test.YtfghidehlnfdiaaGreatTVY
import Derived.Test.YtfghidehlnfdiaaGreatProg
import Derived.KernelRfl
import Derived.Test.YtfghidehlnfdiaaGreatRT5
set_option linter.unusedVariables false
set_option linter.unusedSimpArgs false
open Array renaming replicate->JF,size->JO
open Bool renaming false->F,true->J4
open Go renaming Calls->K,Ending->J2,World->Q,convert->J8
open Go.Builtin renaming append->J7
open Go.Ending renaming panicked->V,returned->G
open Go.Instr renaming storeAt->J3
open Go.IntKind renaming i64->O,u8->H,wrap->Z
open Go.Operand renaming tmp->JE
open Go.Proofs.Tryz renaming prog->J
open Go.Result renaming ok->JB
open Go.Sem renaming run->T
open Go.Value renaming map->JH,pointer->X,string->J9,tuple->W
open Int renaming toNat->J0,toNat_natCast->J5
open List renaming cons_append->JL,drop_eq_getElem_cons->JC,eq_nil_of_length_eq_zero->JA,filter_append->JI,getElem_drop->JK,getElem_map->JM,getElem_of_mem->J6,getElem_take->JJ,length_drop->J1,length_take->JD,take_append_drop->JG
open Option renaming isNone->JN,none->N,some->Y
section
namespace Go.Proofs.YtfghidehlnfdiaaGreat
open Go Go.Vcg
abbrev Z0J.n:Nat:=18
def Z0J.Vc(a b c:Array Value)(d:Option Addr)(e f:Nat)(g:Option Addr)(h i:Nat)(w:Q)(R:J2->Q->Prop):Prop :=
 ∀j k,ZC w 27 a j k ->
 ∀a l,ZC k 27 b a l ->
 ∀b k,ZC l 27 c b k ->
 ∀c l,ZC k 40 #[.int O 0] c l ->
 K J 29 #[.slice g h i,.bool F] l (fun g i =>
 ((∃ch,g=V ch/\R (V ch) i) \/
 ∃k:Option Nat,∃l m,g=G (W #[.agg #[JH k,.bool l],.int O m]) /\
 ∀g n,ZC i 69 #[JH N,.bool F] g n ->
 Z1 n g (JH k)/\∀i,ZA n g (JH k) i ->
 Z1 i (g.add 1) (.bool l)/\∀k,ZA i (g.add 1) (.bool l) k ->
 Z1 k c (.int O m)/\∀i,ZA k c (.int O m) i ->
 ∃k,i.cell? c=Y (.int O k) /\
 ((k≠0 ->
 Z1 i c (.int O 162)/\∀l,ZA i c (.int O 162) l ->
 ∃m,l.cell? c=Y (.int O m) /\
 R (G (.int O m)) l) /\
 (k=0 ->
 (((e:Int)>4096 ->
 Z1 i c (.int O 162)/\∀k,ZA i c (.int O 162) k ->
 ∃l,k.cell? c=Y (.int O l) /\
 R (G (.int O l)) k) /\
 (¬(e:Int)>4096 ->
 ∃k,ZG i a 32 k /\
 ∃l,ZG i b 32 l /\
 K J 30 #[.agg k,.agg l] i (fun i k =>
 ((∃ch,i=V ch/\R (V ch) k) \/
 ∃l m n o p q r,i=G (W #[.agg #[.slice l m n,.slice o p q],.bool r]) /\
 ∀i s,ZC k 73 #[.slice N 0 0,.slice N 0 0] i s ->
 Z1 s i (.slice l m n)/\∀k,ZA s i (.slice l m n) k ->
 Z1 k (i.add 1) (.slice o p q)/\∀l,ZA k (i.add 1) (.slice o p q) l ->
 ((r=F ->
 Z1 l c (.int O 164)/\∀k,ZA l c (.int O 164) k ->
 ∃m,k.cell? c=Y (.int O m) /\
 R (G (.int O m)) k) /\
 (r=J4 ->
 ∃k,ZG l a 32 k /\
 ∃a,ZG l b 32 a /\
 K J 42 #[.slice d e f,.agg k,.agg a] l (fun a b =>
 ((∃ch,a=V ch/\R (V ch) b) \/
 ∃k,a=G (.bool k) /\
 ((k=F ->
 Z1 b c (.int O 164)/\∀a,ZA b c (.int O 164) a ->
 ∃l,a.cell? c=Y (.int O l) /\
 R (G (.int O l)) a) /\
 (k=J4 ->
 ∃a k l m n o,b.cell? i=Y (.slice a k l) /\
 b.cell? (i.add 1)=Y (.slice m n o) /\
 ∃i:Option Nat,∃p,b.cell? g=Y (JH i) /\
 b.cell? (g.add 1)=Y (.bool p) /\
 ∃g q,T J (Instr.makeMap 78 N) b=JB g q /\
 ∃b:Option Nat,g=(JH b) /\
 ∀g r,ZC q 102 #[.slice a k l,.slice m n o,.slice N 0 0,.slice d e f,JH i,.bool p,JH b] g r ->
 ∃(a:Int->Q->Prop)(b:Int->Q->Nat),a 0 r /\
 (∀(f:Int)(i:Nat->Value)(i:Q),a f i ->
 ((f<(e:Int) ->
 ∃k,d=Y k /\
 ((0:Int)<=f/\f<(e:Int)) /\
 ∃d l m n o p,i.cell? (k.add (f.toNat*2))=Y (.slice d l m) /\
 i.cell? ((k.add (f.toNat*2)).add 1)=Y (.slice n o p) /\
 ∀k q,ZC i 53 #[.slice N 0 0,.slice N 0 0] k q ->
 Z1 q k (.slice d l m)/\∀r,ZA q k (.slice d l m) r ->
 Z1 r (k.add 1) (.slice n o p)/\∀d,ZA r (k.add 1) (.slice n o p) d ->
 ∀l,ZJ d l ->
 ∃d m n,l.cell? (g.add 2)=Y (.slice d m n) /\
 ∃o p q,l.cell? k=Y (.slice o p q) /\
 K J 43 #[.slice o p q] l (fun k l =>
 ((∃ch,k=V ch/\R (V ch) l) \/
 ∃o p q,k=G (.slice o p q) /\
 l.cell? (g.add 2)=Y (.slice d m n) /\
 ∀k r,ZC l 23 #[.slice o p q] k r ->
 r.cell? (g.add 2)=Y (.slice d m n) /\
 ∃l o,T J (builtinV J7 #[31,31] 31 #[.slice d m n,.slice (Y k) 1 1]) r=JB l o /\
 ∃d k m,l=(.slice d k m) /\
 Z1 o (g.add 2) (.slice d k m)/\∀l,ZA o (g.add 2) (.slice d k m) l ->
 a (Z O (f+1)) l/\b (Z O (f+1)) l<b f i))) /\
 (¬f<(e:Int) ->
 ∃a,ZG i j 32 a /\
 K J 39 #[.agg a] i (fun a b =>
 ((∃ch,a=V ch/\Z3S J (fun d =>
 ∃e,d.cell? c=Y (.int O e) /\
 R (G (.int O e)) d) R [(32,#[X (Y c)])] (.panicking ch) b) \/
 ∃d,a=G (.agg d) /\
 K J 44 #[X (Y g),.agg d,.slice N 0 0] b (fun a b =>
 ((∃ch,a=V ch/\Z3S J (fun d =>
 ∃e,d.cell? c=Y (.int O e) /\
 R (G (.int O e)) d) R [(32,#[X (Y c)])] (.panicking ch) b) \/
 a=G (W #[]) /\
 ∃a:Option Nat,b.cell? (g.add 6)=Y (JH a) /\
 ∃d,T J (builtinV .len #[78] 3 #[JH a]) b=JB d b /\
 ∃a,d=(.int O a) /\
 ((a<(h:Int) ->
 K J 45 #[.int O 162] b (fun d e =>
 ((∃ch,d=V ch/\Z3S J (fun f =>
 ∃g,f.cell? c=Y (.int O g) /\
 R (G (.int O g)) f) R [(32,#[X (Y c)])] (.panicking ch) e) \/
 d=G (W #[]) /\
 Z1 e c (.int O 0)/\∀d,ZA e c (.int O 0) d ->
 Z3S J (fun e =>
 ∃f,e.cell? c=Y (.int O f) /\
 R (G (.int O f)) e) R [(32,#[X (Y c)])] .returning d))) /\
 (¬a<(h:Int) ->
 Z1 b c (.int O 0)/\∀a,ZA b c (.int O 0) a ->
 Z3S J (fun b =>
 ∃d,b.cell? c=Y (.int O d) /\
 R (G (.int O d)) b) R [(32,#[X (Y c)])] .returning a)))))))))))))))))))))))
theorem Z0J.vc(a:Array Value)(b:Array Value)(c:Array Value)(d:Option Addr)(e:Nat)(f:Nat)(g:Option Addr)(i:Nat)(j:Nat)(w:Q)(R:J2->Q->Prop)(h:Z0J.Vc a b c d e f g i j w R):K J 18 #[(.agg a),(.agg b),(.agg c),(.slice d e f),(.slice g i j)] w R :=
 Z5J (ann:=[(9,[(52,.cell (.int O))])]) (args:=[.big 32 a,.big 32 b,.big 32 c,.slice d e f,.slice g i j]) Tryz.func18 ZL (Eq.mp (by kernel_rfl:Z0J.Vc a b c d e f g i j w R=ZC4 (aD J R) (ZFP J R) J [(9,[(52,.cell (.int O))])] Tryz.f18 [.big 32 a,.big 32 b,.big 32 c,.slice d e f,.slice g i j] False w) h)
abbrev Zh.n:Nat:=44
def Zh.Vc(a:Addr)(b:Array Value)(c:Option Addr)(d e:Nat)(w:Q)(R:J2->Q->Prop):Prop :=
 ∀f g,ZC w 82 b f g ->
 ∃(b:Q->Prop),(((d:Int)>64 ->
 K J 45 #[.int O 161] g (fun h i =>
 ((∃ch,h=V ch/\R (V ch) i) \/
 h=G (W #[]) /\
 b  i))) /\
 (¬(d:Int)>64 ->
 b  g)) /\
 (∀  (g:Nat->Value)(g:Q),b  g ->
 ∃b h i j k l,g.cell? a=Y (.slice b h i) /\
 g.cell? (a.add 1)=Y (.slice j k l) /\
 K J 34 #[.agg #[.slice b h i,.slice j k l],.slice c d e] g (fun b g =>
 ((∃ch,b=V ch/\R (V ch) g) \/
 ∃h,b=G (.int O h) /\
 ((h=1 ->
 R (G (W #[])) g) /\
 (h≠1 ->
 ((h=0 ->
 ∃b,ZG g f 34 b /\
 K J 71 #[X (Y a),.agg b,.slice c d e] g (fun b i =>
 ((∃ch,b=V ch/\R (V ch) i) \/
 b=G (W #[]) /\
 R (G (W #[])) i))) /\
 (h≠0 ->
 K J 72 #[X (Y a),.slice c d e] g (fun b g =>
 ((∃ch,b=V ch/\R (V ch) g) \/
 ∃h i,b=G (W #[.int O h,.int O i]) /\
 ∃b,g.cell? (f.add 33)=Y (.bool b) /\
 ((b=F ->
 ((h<i ->
 K J 45 #[.int O 163] g (fun j k =>
 ((∃ch,j=V ch/\R (V ch) k) \/
 j=G (W #[]) /\
 R (G (W #[])) k))) /\
 (¬h<i ->
 R (G (W #[])) g))) /\
 (b=J4 ->
 ∃b,ZG g f 34 b /\
 K J 73 #[X (Y a),.agg b] g (fun b f =>
 ((∃ch,b=V ch/\R (V ch) f) \/
 ∃g j k l m n o p q r,b=G (.agg #[.bool g,.slice j k l,.slice m n o,.slice p q r]) /\
 ∀b s,ZC f 86 #[.bool F,.slice N 0 0,.slice N 0 0,.slice N 0 0] b s ->
 Z1 s b (.bool g)/\∀f,ZA s b (.bool g) f ->
 Z1 f (b.add 1) (.slice j k l)/\∀g,ZA f (b.add 1) (.slice j k l) g ->
 Z1 g (b.add 2) (.slice m n o)/\∀f,ZA g (b.add 2) (.slice m n o) f ->
 Z1 f (b.add 3) (.slice p q r)/\∀g,ZA f (b.add 3) (.slice p q r) g ->
 ∃(f:Q->Prop),(∃j k l,g.cell? (b.add 1)=Y (.slice j k l) /\
 (((Z O ((d:Int)+(k:Int)))>64 ->
 K J 45 #[.int O 161] g (fun j l =>
 ((∃ch,j=V ch/\R (V ch) l) \/
 j=G (W #[]) /\
 f  l))) /\
 (¬(Z O ((d:Int)+(k:Int)))>64 ->
 f  g))) /\
 (∀  (g:Nat->Value)(g:Q),f  g ->
 ∃f j k l m n o p q r,g.cell? b=Y (.bool f) /\
 g.cell? (b.add 1)=Y (.slice j k l) /\
 g.cell? (b.add 2)=Y (.slice m n o) /\
 g.cell? (b.add 3)=Y (.slice p q r) /\
 K J 74 #[.agg #[.bool f,.slice j k l,.slice m n o,.slice p q r],.slice c d e,.func (.func 75) #[X (Y a)] #[]] g (fun f g =>
 ((∃ch,f=V ch/\R (V ch) g) \/
 f=G (W #[]) /\
 ∃f j k,g.cell? (a.add 2)=Y (.slice f j k) /\
 ((0:Int)<=i/\i<=(k:Int)) /\
 ((0:Int)<=h/\h<=((i.toNat:Nat):Int)) /\
 ∃(j:Int->Q->Prop)(l:Int->Q->Nat),j 0 g /\
 (∀(g:Int)(m:Nat->Value)(m:Q),j g m ->
 ((g<(((i.toNat-h.toNat):Nat):Int) ->
 ∃n,(subO f k h.toNat 1)=Y n /\
 ((0:Int)<=g/\g<(((i.toNat-h.toNat):Nat):Int)) /\
 ∃f k o,m.cell? (n.add g.toNat)=Y (.slice f k o) /\
 ∃n p q r s t u v x y,m.cell? b=Y (.bool n) /\
 m.cell? (b.add 1)=Y (.slice p q r) /\
 m.cell? (b.add 2)=Y (.slice s t u) /\
 m.cell? (b.add 3)=Y (.slice v x y) /\
 K J 76 #[.agg #[.bool n,.slice p q r,.slice s t u,.slice v x y],.slice c d e,.slice f k o] m (fun f k =>
 ((∃ch,f=V ch/\R (V ch) k) \/
 ∃n,f=G (.bool n) /\
 ((n=F ->
 K J 45 #[.int O 163] k (fun f o =>
 ((∃ch,f=V ch/\R (V ch) o) \/
 f=G (W #[]) /\
 j (Z O (g+1)) o/\l (Z O (g+1)) o<l g m))) /\
 (n=J4 ->
 j (Z O (g+1)) k/\l (Z O (g+1)) k<l g m))))) /\
 (¬g<(((i.toNat-h.toNat):Nat):Int) ->
 ∃f g h i j k l n o p,m.cell? b=Y (.bool f) /\
 m.cell? (b.add 1)=Y (.slice g h i) /\
 m.cell? (b.add 2)=Y (.slice j k l) /\
 m.cell? (b.add 3)=Y (.slice n o p) /\
 K J 38 #[.agg #[.bool f,.slice g h i,.slice j k l,.slice n o p],.slice c d e,.func (.func 44) #[X (Y a)] #[]] m (fun a b =>
 ((∃ch,a=V ch/\R (V ch) b) \/
 a=G (W #[]) /\
 R (G (W #[])) b)))))))))))))))))))))
theorem Zh.vc(a b c d e w R)(h:Zh.Vc a b c d e w R):K J 44 #[(X (Y a)),(.agg b),(.slice c d e)] w R:=xt [(1000003,[]),(1000014,[]),(16,[(66,.cell (.int O))])] [.addr a,.big 34 b,.slice c d e] Tryz.func44 ZL (by kernel_rfl) h
abbrev Z0P.n:Nat:=71
def Z0P.Vc(a:Addr)(b:Array Value)(c:Option Addr)(d e:Nat)(w:Q)(R:J2->Q->Prop):Prop :=
 ∀f g,ZC w 82 b f g ->
 K J 103 #[X (Y a),.slice c d e] g (fun b c =>
 ((∃ch,b=V ch/\R (V ch) c) \/
 ∃e,b=G (.agg e) /\
 ∀b g,ZC c 82 #[.int H 0,.int H 0,.int H 0,.int H 0,.int H 0,.int H 0,.int H 0,.int H 0,.int H 0,.int H 0,.int H 0,.int H 0,.int H 0,.int H 0,.int H 0,.int H 0,.int H 0,.int H 0,.int H 0,.int H 0,.int H 0,.int H 0,.int H 0,.int H 0,.int H 0,.int H 0,.int H 0,.int H 0,.int H 0,.int H 0,.int H 0,.int H 0,X N,.bool F] b g ->
 ∃c,T J (J3 82 (X (Y b)) (.agg e)) g=JB () c /\
 ∃(e:Q->Prop),(((d:Int)=0 ->
 K J 104 #[X (Y a)] c (fun a g =>
 ((∃ch,a=V ch/\R (V ch) g) \/
 ∃h,a=G (.agg h) /\
 ∃a,T J (J3 82 (X (Y b)) (.agg h)) g=JB () a /\
 e  a))) /\
 ((d:Int)≠0 ->
 e  c)) /\
 (∀  (a:Nat->Value)(a:Q),e  a ->
 ∃c,ZG a f 34 c /\
 ∃d,ZG a b 34 d /\
 K J 105 #[.agg c,.agg d] a (fun a b =>
 ((∃ch,a=V ch/\R (V ch) b) \/
 ∃c,a=G (.bool c) /\
 ((c=F ->
 K J 45 #[.int O 163] b (fun a d =>
 ((∃ch,a=V ch/\R (V ch) d) \/
 a=G (W #[]) /\
 R (G (W #[])) d))) /\
 (c=J4 ->
 R (G (W #[])) b)))))))
theorem Z0P.vc(a b c d e w R)(h:Z0P.Vc a b c d e w R):K J 71 #[(X (Y a)),(.agg b),(.slice c d e)] w R:=xt [(1000004,[])] [.addr a,.big 34 b,.slice c d e] Tryz.func71 ZL (by kernel_rfl) h
abbrev Z0A.n:Nat:=72
def Z0A.Vc(a:Addr)(b:Option Addr)(c d:Nat)(w:Q)(R:J2->Q->Prop):Prop :=
 ∀e f,ZC w 23 #[.slice b c d] e f ->
 ∃b c d,f.cell? (a.add 2)=Y (.slice b c d) /\
 K J 106 #[.slice b c d,.func (.func 107) #[] #[X (Y e)]] f (fun b c =>
 ∃d,b=G (.int O d) /\
 ((d<0 ->
 R (G (W #[.int O 0,.int O 0])) c) /\
 (¬d<0 ->
 ∃(b:Int->Q->Prop)(f:Int->Q->Nat),b d c /\
 (∀(c:Int)(g:Nat->Value)(g:Q),b c g ->
 ∀h,ZJ g h ->
 ∃i j k,h.cell? (a.add 2)=Y (.slice i j k) /\
 ((c<(j:Int) ->
 ∃i k l,h.cell? (a.add 2)=Y (.slice i k l) /\
 ∃a,i=Y a /\
 ((0:Int)<=c/\c<(k:Int)) /\
 ∃i k l,h.cell? (a.add c.toNat)=Y (.slice i k l) /\
 ∃a m n,h.cell? e=Y (.slice a m n) /\
 K J 108 #[.slice i k l,.slice a m n] h (fun a e =>
 ∃i,a=G (.bool i) /\
 ((i=J4 ->
 b (Z O (c+1)) e/\f (Z O (c+1)) e<f c g) /\
 (i=F ->
 R (G (W #[.int O d,.int O c])) e)))) /\
 (¬c<(j:Int) ->
 R (G (W #[.int O d,.int O c])) h))))))
theorem Z0A.vc(a b c d w R)(h:Z0A.Vc a b c d w R):K J 72 #[(X (Y a)),(.slice b c d)] w R:=xs [(5,[(5,.cell (.int O))])] [.addr a,.slice b c d] Tryz.func72 ZL (by kernel_rfl) h
def Z0w.Vc(a:Option Addr)(b c:Nat)(d:Addr)(w:Q)(R:J2->Q->Prop):Prop :=
 ∃e f g,w.cell? d=Y (.slice e f g) /\
 K J 108 #[.slice a b c,.slice e f g] w (fun a b =>
 ∃c,a=G (.bool c) /\
 R (G (.bool c)) b)
theorem Z0w.vc(a b c d w R)(h:Z0w.Vc a b c d w R):K J 107 #[(.slice a b c),(X (Y d))] w R:=xs [] [.slice a b c,.addr d] Tryz.func107 ZL (by kernel_rfl) h
abbrev Z0N.n:Nat:=73
def Z0N.Vc(a:Addr)(b:Array Value)(w:Q)(R:J2->Q->Prop):Prop :=
 ∀c d,ZC w 82 b c d ->
 ∀b e,ZC d 86 #[.bool F,.slice N 0 0,.slice N 0 0,.slice N 0 0] b e ->
 ∃d,e.cell? (c.add 32)=Y (X d) /\
 ((d≠N ->
 ∃f,e.cell? (c.add 32)=Y (X f) /\
 ∃g,f=Y g /\
 ∃f h i j k l m,e.cell? g=Y (.bool f) /\
 e.cell? (g.add 1)=Y (.slice h i j) /\
 e.cell? (g.add 2)=Y (.slice k l m) /\
 K J 65 #[.agg #[.bool f,.slice h i j,.slice k l m]] e (fun f g =>
 ((∃ch,f=V ch/\R (V ch) g) \/
 ∃h i j k l m n o p q,f=G (.agg #[.bool h,.slice i j k,.slice l m n,.slice o p q]) /\
 Z1 g b (.bool h)/\∀f,ZA g b (.bool h) f ->
 Z1 f (b.add 1) (.slice i j k)/\∀g,ZA f (b.add 1) (.slice i j k) g ->
 Z1 g (b.add 2) (.slice l m n)/\∀f,ZA g (b.add 2) (.slice l m n) f ->
 Z1 f (b.add 3) (.slice o p q)/\∀g,ZA f (b.add 3) (.slice o p q) g ->
 ∃f h i j k l m n o p,g.cell? b=Y (.bool f) /\
 g.cell? (b.add 1)=Y (.slice h i j) /\
 g.cell? (b.add 2)=Y (.slice k l m) /\
 g.cell? (b.add 3)=Y (.slice n o p) /\
 R (G (.agg #[.bool f,.slice h i j,.slice k l m,.slice n o p])) g))) /\
 (d=N ->
 ∀d,ZJ e d ->
 ∃e:Option Nat,∃f,d.cell? (a.add 4)=Y (JH e) /\
 d.cell? ((a.add 4).add 1)=Y (.bool f) /\
 ∃g,ZG d c 32 g /\
 K J 37 #[.agg #[JH e,.bool f],.agg g] d (fun d e =>
 ((∃ch,d=V ch/\R (V ch) e) \/
 ∃f g h,d=G (.slice f g h) /\
 ∃(d:Q->Prop),(∀i,ZJ e i ->
 ∃e,ZG i c 32 e /\
 ∀j k,ZC i 23 #[.slice f g h] j k ->
 ZG k c 32 e /\
 K J 53 #[.slice (Y j) 1 1] k (fun i j =>
 ((∃ch,i=V ch/\R (V ch) j) \/
 ∃k,i=G (.agg k) /\
 ZG j c 32 e /\
 ∃i,T J (Z02 .neq 27 (JE 25) (JE 27) (.agg k) (.agg e)) j=JB i j /\
 ∃e,i=(.bool e) /\
 ((e=J4 ->
 K J 45 #[.int O 163] j (fun i k =>
 ((∃ch,i=V ch/\R (V ch) k) \/
 i=G (W #[]) /\
 d  k))) /\
 (e=F ->
 d  j))))) /\
 (∀  (e:Nat->Value)(e:Q),d  e ->
 ∀d,ZJ e d ->
 ∃e:Option Nat,d.cell? (a.add 6)=Y (JH e) /\
 ∃a,ZG d c 32 a /\
 ∃c,T J (Instr.mapUpdate 78 (JH e) (.agg a) (.agg #[])) d=JB () c /\
 K J 66 #[.slice f g h] c (fun a c =>
 ((∃ch,a=V ch/\R (V ch) c) \/
 ∃d e f g h i j k l m n,a=G (W #[.agg #[.bool d,.slice e f g,.slice h i j,.slice k l m],.int O n]) /\
 ∀a o,ZC c 86 #[.bool F,.slice N 0 0,.slice N 0 0,.slice N 0 0] a o ->
 Z1 o a (.bool d)/\∀c,ZA o a (.bool d) c ->
 Z1 c (a.add 1) (.slice e f g)/\∀d,ZA c (a.add 1) (.slice e f g) d ->
 Z1 d (a.add 2) (.slice h i j)/\∀c,ZA d (a.add 2) (.slice h i j) c ->
 Z1 c (a.add 3) (.slice k l m)/\∀d,ZA c (a.add 3) (.slice k l m) d ->
 K J 45 #[.int O n] d (fun c d =>
 ((∃ch,c=V ch/\R (V ch) d) \/
 c=G (W #[]) /\
 ∃c e f g h i j k l m,d.cell? a=Y (.bool c) /\
 d.cell? (a.add 1)=Y (.slice e f g) /\
 d.cell? (a.add 2)=Y (.slice h i j) /\
 d.cell? (a.add 3)=Y (.slice k l m) /\
 Z1 d b (.bool c)/\∀a,ZA d b (.bool c) a ->
 Z1 a (b.add 1) (.slice e f g)/\∀c,ZA a (b.add 1) (.slice e f g) c ->
 Z1 c (b.add 2) (.slice h i j)/\∀a,ZA c (b.add 2) (.slice h i j) a ->
 Z1 a (b.add 3) (.slice k l m)/\∀c,ZA a (b.add 3) (.slice k l m) c ->
 ∃a d e f g h i j k l,c.cell? b=Y (.bool a) /\
 c.cell? (b.add 1)=Y (.slice d e f) /\
 c.cell? (b.add 2)=Y (.slice g h i) /\
 c.cell? (b.add 3)=Y (.slice j k l) /\
 R (G (.agg #[.bool a,.slice d e f,.slice g h i,.slice j k l])) c)))))))))
theorem Z0N.vc(a b w R)(h:Z0N.Vc a b w R):K J 73 #[(X (Y a)),(.agg b)] w R:=xt [(1000006,[])] [.addr a,.big 34 b] Tryz.func73 ZL (by kernel_rfl) h
abbrev Z0B.n:Nat:=75
def Z0B.Vc(a:Addr)(b:Option Addr)(c d:Nat)(e:Option Addr)(f g:Nat)(w:Q)(R:J2->Q->Prop):Prop :=
 ∃(h:Q->Prop),(((c:Int)≠64 ->
 K J 45 #[.int O 161] w (fun i j =>
 ((∃ch,i=V ch/\R (V ch) j) \/
 i=G (W #[]) /\
 h  j))) /\
 ((c:Int)=64 ->
 h  w)) /\
 (∀  (i:Nat->Value)(i:Q),h  i ->
 ∃h j k l m n,i.cell? a=Y (.slice h j k) /\
 i.cell? (a.add 1)=Y (.slice l m n) /\
 K J 34 #[.agg #[.slice h j k,.slice l m n],.slice b c d] i (fun h i =>
 ((∃ch,h=V ch/\R (V ch) i) \/
 ∃j,h=G (.int O j) /\
 ((j=1 ->
 R (G (W #[])) i) /\
 (j≠1 ->
 K J 72 #[X (Y a),.slice b c d] i (fun b c =>
 ((∃ch,b=V ch/\R (V ch) c) \/
 ∃d h,b=G (W #[.int O d,.int O h]) /\
 ((d=h ->
 K J 45 #[.int O 163] c (fun b i =>
 ((∃ch,b=V ch/\R (V ch) i) \/
 b=G (W #[]) /\
 R (G (W #[])) i))) /\
 (d≠h ->
 ∃b h i,c.cell? (a.add 3)=Y (.slice b h i) /\
 ∃a,b=Y a /\
 ((0:Int)<=d/\d<(h:Int)) /\
 ∃b h i,c.cell? ((a.add (d.toNat*2)).add 1)=Y (.slice b h i) /\
 K J 82 #[.slice b h i,.slice e f g] c (fun a b =>
 ((∃ch,a=V ch/\R (V ch) b) \/
 ∃c,a=G (.bool c) /\
 ((c=F ->
 K J 45 #[.int O 163] b (fun a d =>
 ((∃ch,a=V ch/\R (V ch) d) \/
 a=G (W #[]) /\
 R (G (W #[])) d))) /\
 (c=J4 ->
 R (G (W #[])) b)))))))))))))
theorem Z0B.vc(a b c d e f g w R)(h:Z0B.Vc a b c d e f g w R):K J 75 #[(X (Y a)),(.slice b c d),(.slice e f g)] w R:=xt [(1000002,[])] [.addr a,.slice b c d,.slice e f g] Tryz.func75 ZL (by kernel_rfl) h
abbrev Z0M.n:Nat:=103
def Z0M.Vc(a:Addr)(b:Option Addr)(c d:Nat)(w:Q)(R:J2->Q->Prop):Prop :=
 ∀e f,ZC w 82 #[.int H 0,.int H 0,.int H 0,.int H 0,.int H 0,.int H 0,.int H 0,.int H 0,.int H 0,.int H 0,.int H 0,.int H 0,.int H 0,.int H 0,.int H 0,.int H 0,.int H 0,.int H 0,.int H 0,.int H 0,.int H 0,.int H 0,.int H 0,.int H 0,.int H 0,.int H 0,.int H 0,.int H 0,.int H 0,.int H 0,.int H 0,.int H 0,X N,.bool F] e f ->
 K J 72 #[X (Y a),.slice b c d] f (fun b d =>
 ∃f g,b=G (W #[.int O f,.int O g]) /\
 ((f=g ->
 ∃b,T J (J3 82 (X (Y e)) (.agg #[.int H 0,.int H 0,.int H 0,.int H 0,.int H 0,.int H 0,.int H 0,.int H 0,.int H 0,.int H 0,.int H 0,.int H 0,.int H 0,.int H 0,.int H 0,.int H 0,.int H 0,.int H 0,.int H 0,.int H 0,.int H 0,.int H 0,.int H 0,.int H 0,.int H 0,.int H 0,.int H 0,.int H 0,.int H 0,.int H 0,.int H 0,.int H 0,X N,.bool F])) d=JB () b /\
 ∃h,ZG b e 34 h /\
 R (G (.agg h)) b) /\
 (f≠g ->
 ∀b,ZJ d b ->
 ∃d h i,b.cell? (a.add 2)=Y (.slice d h i) /\
 ((0:Int)<=g/\g<=(i:Int)) /\
 ((0:Int)<=f/\f<=((g.toNat:Nat):Int)) /\
 ∃j k l,b.cell? (a.add 3)=Y (.slice j k l) /\
 ((0:Int)<=g/\g<=(l:Int)) /\
 ((0:Int)<=f/\f<=((g.toNat:Nat):Int)) /\
 ((K J 123 #[.slice (subO d i f.toNat 1) (g.toNat-f.toNat) (i-f.toNat),.slice (subO j l f.toNat 2) (g.toNat-f.toNat) (l-f.toNat),.int O (c:Int)] b (fun m n =>
 ∃o p q r s t u,m=G (.agg #[.bool o,.slice p q r,.slice s t u]) /\
 ∀m v,ZC n 111 #[.bool F,.slice N 0 0,.slice N 0 0] m v ->
 Z1 v m (.bool o)/\∀n,ZA v m (.bool o) n ->
 Z1 n (m.add 1) (.slice p q r)/\∀o,ZA n (m.add 1) (.slice p q r) o ->
 Z1 o (m.add 2) (.slice s t u)/\∀n,ZA o (m.add 2) (.slice s t u) n ->
 ∃o p q r s t u,n.cell? m=Y (.bool o) /\
 n.cell? (m.add 1)=Y (.slice p q r) /\
 n.cell? (m.add 2)=Y (.slice s t u) /\
 K J 124 #[.agg #[.bool o,.slice p q r,.slice s t u]] n (fun m n =>
 ∃o,m=G (.agg o) /\
 ∃m,T J (J3 82 (X (Y e)) (.agg o)) n=JB () m /\
 ∃n,ZG m e 34 n /\
 R (G (.agg n)) m))) /\
 (∀m n,ZC b 111 #[.bool F,.slice N 0 0,.slice N 0 0] m n ->
 n.cell? (a.add 3)=Y (.slice j k l) /\
 n.cell? (a.add 2)=Y (.slice d h i) /\
 K J 123 #[.slice (subO d i f.toNat 1) (g.toNat-f.toNat) (i-f.toNat),.slice (subO j l f.toNat 2) (g.toNat-f.toNat) (l-f.toNat),.int O (c:Int)] n (fun a b =>
 ∃c d f g h i j,a=G (.agg #[.bool c,.slice d f g,.slice h i j]) /\
 Z1 b m (.bool c)/\∀a,ZA b m (.bool c) a ->
 Z1 a (m.add 1) (.slice d f g)/\∀b,ZA a (m.add 1) (.slice d f g) b ->
 Z1 b (m.add 2) (.slice h i j)/\∀a,ZA b (m.add 2) (.slice h i j) a ->
 ∃b c d f g h i,a.cell? m=Y (.bool b) /\
 a.cell? (m.add 1)=Y (.slice c d f) /\
 a.cell? (m.add 2)=Y (.slice g h i) /\
 K J 124 #[.agg #[.bool b,.slice c d f,.slice g h i]] a (fun a b =>
 ∃c,a=G (.agg c) /\
 ∃a,T J (J3 82 (X (Y e)) (.agg c)) b=JB () a /\
 ∃b,ZG a e 34 b /\
 R (G (.agg b)) a)))))))
theorem Z0M.vc(a b c d w R)(h:Z0M.Vc a b c d w R):K J 103 #[(X (Y a)),(.slice b c d)] w R:=xs [] [.addr a,.slice b c d] Tryz.func103 ZL (by kernel_rfl) h
abbrev Z0O.n:Nat:=104
def Z0O.Vc(a:Addr)(w:Q)(R:J2->Q->Prop):Prop :=
 ∀b c,ZC w 82 #[.int H 0,.int H 0,.int H 0,.int H 0,.int H 0,.int H 0,.int H 0,.int H 0,.int H 0,.int H 0,.int H 0,.int H 0,.int H 0,.int H 0,.int H 0,.int H 0,.int H 0,.int H 0,.int H 0,.int H 0,.int H 0,.int H 0,.int H 0,.int H 0,.int H 0,.int H 0,.int H 0,.int H 0,.int H 0,.int H 0,.int H 0,.int H 0,X N,.bool F] b c ->
 ∃d e f,c.cell? (a.add 3)=Y (.slice d e f) /\
 (((e:Int)=0 ->
 ∃d,T J (J3 82 (X (Y b)) (.agg #[.int H 0,.int H 0,.int H 0,.int H 0,.int H 0,.int H 0,.int H 0,.int H 0,.int H 0,.int H 0,.int H 0,.int H 0,.int H 0,.int H 0,.int H 0,.int H 0,.int H 0,.int H 0,.int H 0,.int H 0,.int H 0,.int H 0,.int H 0,.int H 0,.int H 0,.int H 0,.int H 0,.int H 0,.int H 0,.int H 0,.int H 0,.int H 0,X N,.bool F])) c=JB () d /\
 ∃f,ZG d b 34 f /\
 R (G (.agg f)) d) /\
 ((e:Int)≠0 ->
 K J 68 #[] c (fun c d =>
 ((∃ch,c=V ch/\R (V ch) d) \/
 ∃e,c=G (.agg e) /\
 K J 125 #[.agg e,.slice N 0 0] d (fun c d =>
 ((∃ch,c=V ch/\R (V ch) d) \/
 ∃e,c=G (X e) /\
 ∃c f g,d.cell? (a.add 3)=Y (.slice c f g) /\
 ∃(a:Int->Q->Prop)(g:Int->Q->Nat),a 0 d /\
 (∀(d:Int)(h:Nat->Value)(h:Q),a d h ->
 ((d<(f:Int) ->
 ∃i,c=Y i /\
 ((0:Int)<=d/\d<(f:Int)) /\
 ∃c j k l m n,h.cell? (i.add (d.toNat*2))=Y (.slice c j k) /\
 h.cell? ((i.add (d.toNat*2)).add 1)=Y (.slice l m n) /\
 ∀i o,ZC h 53 #[.slice N 0 0,.slice N 0 0] i o ->
 Z1 o i (.slice c j k)/\∀p,ZA o i (.slice c j k) p ->
 Z1 p (i.add 1) (.slice l m n)/\∀c,ZA p (i.add 1) (.slice l m n) c ->
 ∃j k l,c.cell? i=Y (.slice j k l) /\
 ∃m n o,c.cell? (i.add 1)=Y (.slice m n o) /\
 K J 126 #[X e,.slice j k l,.slice m n o] c (fun c i =>
 ((∃ch,c=V ch/\R (V ch) i) \/
 ∃j,c=G (.int O j) /\
 K J 45 #[.int O j] i (fun c i =>
 ((∃ch,c=V ch/\R (V ch) i) \/
 c=G (W #[]) /\
 a (Z O (d+1)) i/\g (Z O (d+1)) i<g d h))))) /\
 (¬d<(f:Int) ->
 K J 127 #[X e] h (fun a c =>
 ((∃ch,a=V ch/\R (V ch) c) \/
 ∃d,a=G (.agg d) /\
 K J 39 #[.agg d] c (fun a c =>
 ((∃ch,a=V ch/\R (V ch) c) \/
 ∃d,a=G (.agg d) /\
 ∃a,T J (J3 82 (X (Y b)) (.agg d)) c=JB () a /\
 ∃c,ZG a b 34 c /\
 R (G (.agg c)) a)))))))))))))
theorem Z0O.vc(a w R)(h:Z0O.Vc a w R):K J 104 #[(X (Y a))] w R:=xt [(5,[(20,.cell (.int O))])] [.addr a] Tryz.func104 ZL (by kernel_rfl) h
abbrev Z1g.n:Nat:=74
def Z1g.Vc(a:Bool)(b:Option Addr)(c d:Nat)(e:Option Addr)(f g:Nat)(h:Option Addr)(i j:Nat)(k:Option Addr)(l m:Nat)(n:Value)(w:Q)(R:J2->Q->Prop):Prop :=
 ∀o p,ZC w 86 #[.bool a,.slice b c d,.slice e f g,.slice h i j] o p ->
 ∃a,p.cell? o=Y (.bool a) /\
 ((a=J4 ->
 ∀b,ZJ p b ->
 ∃c d e,b.cell? (o.add 1)=Y (.slice c d e) /\
 ∃f g h,b.cell? (o.add 3)=Y (.slice f g h) /\
 K J 63 #[.slice k l m,.slice c d e] b (fun b c =>
 ((∃ch,b=V ch/\R (V ch) c) \/
 ∃d e i,b=G (.slice d e i) /\
 c.cell? (o.add 3)=Y (.slice f g h) /\
 Z3E J n #[.slice d e i,.slice f g h] c (fun b c =>
 ((∃ch,b=V ch/\R (V ch) c) \/
 b=G (W #[]) /\
 R (G (W #[])) c))))) /\
 (a=F ->
 ∃a b c,p.cell? (o.add 3)=Y (.slice a b c) /\
 (((b:Int)>0 ->
 ∃a c d,p.cell? (o.add 3)=Y (.slice a c d) /\
 Z3E J n #[.slice k l m,.slice a c d] p (fun a c =>
 ((∃ch,a=V ch/\R (V ch) c) \/
 a=G (W #[]) /\
 R (G (W #[])) c))) /\
 (¬(b:Int)>0 ->
 R (G (W #[])) p))))
theorem Z1g.vc(a b c d e f g i j k l m n o w R)(h:Z1g.Vc a b c d e f g i j k l m n o w R):K J 74 #[(.agg #[(.bool a),(.slice b c d),(.slice e f g),(.slice i j k)]),(.slice l m n),o] w R:=xt [] [.agg [.bool (.var a),.slice b c d,.slice e f g,.slice i j k],.slice l m n,.raw o] Tryz.func74 ZL (by kernel_rfl) h
abbrev Z0b.n:Nat:=76
def Z0b.Vc(a:Bool)(b:Option Addr)(c d:Nat)(e:Option Addr)(f g:Nat)(h:Option Addr)(i j:Nat)(k:Option Addr)(k l:Nat)(l:Option Addr)(m n:Nat)(w:Q)(R:J2->Q->Prop):Prop :=
 ∀o p,ZC w 86 #[.bool a,.slice b c d,.slice e f g,.slice h i j] o p ->
 ((0:Int)<=(k:Int)/\(k:Int)<=(m:Int)) /\
 ∃a,p.cell? o=Y (.bool a) /\
 ((a=J4 ->
 ∃b c d,p.cell? (o.add 1)=Y (.slice b c d) /\
 K J 82 #[.slice (subO l n (J0 (k:Int)) 1) (m-(J0 (k:Int))) (n-(J0 (k:Int))),.slice b c d] p (fun b c =>
 ∃d,b=G (.bool d) /\
 R (G (.bool d)) c)) /\
 (a=F ->
 ∃a b c d e f g h i j,p.cell? o=Y (.bool a) /\
 p.cell? (o.add 1)=Y (.slice b c d) /\
 p.cell? (o.add 2)=Y (.slice e f g) /\
 p.cell? (o.add 3)=Y (.slice h i j) /\
 K J 67 #[.agg #[.bool a,.slice b c d,.slice e f g,.slice h i j]] p (fun a b =>
 ∃c,a=G (.bool c) /\
 ((c=J4 ->
 ∀a,ZJ b a ->
 (((((m-(J0 (k:Int))):Nat):Int)>0 ->
 ∃d e f,a.cell? (o.add 2)=Y (.slice d e f) /\
 ∃f,(subO l n (J0 (k:Int)) 1)=Y f /\
 ((0:Int)<=0/\0<(((m-(J0 (k:Int))):Nat):Int)) /\
 ∃g,a.cell? (f.add 0)=Y (.int H g) /\
 ∃f,d=Y f /\
 ((0:Int)<=g/\g<(e:Int)) /\
 ∃d,a.cell? ((f.add (g.toNat*34)).add 33)=Y (.bool d) /\
 ((d=J4 ->
 R (G (.bool J4)) a) /\
 (d=F ->
 (((((m-(J0 (k:Int))):Nat):Int)=0 ->
 ∃d e f,a.cell? (o.add 3)=Y (.slice d e f) /\
 R (G (.bool (decide ((e:Int)>0)))) a) /\
 ((((m-(J0 (k:Int))):Nat):Int)≠0 ->
 R (G (.bool F)) a))))) /\
 (¬(((m-(J0 (k:Int))):Nat):Int)>0 ->
 (((((m-(J0 (k:Int))):Nat):Int)=0 ->
 ∃d e f,a.cell? (o.add 3)=Y (.slice d e f) /\
 R (G (.bool (decide ((e:Int)>0)))) a) /\
 ((((m-(J0 (k:Int))):Nat):Int)≠0 ->
 R (G (.bool F)) a))))) /\
 (c=F ->
 ∃a c d,b.cell? (o.add 1)=Y (.slice a c d) /\
 K J 108 #[.slice (subO l n (J0 (k:Int)) 1) (m-(J0 (k:Int))) (n-(J0 (k:Int))),.slice a c d] b (fun a b =>
 ∃c,a=G (.bool c) /\
 R (G (.bool c)) b))))))
theorem Z0b.vc(a b c d e f g i j k l m n o p q w R)(h:Z0b.Vc a b c d e f g i j k l m n o p q w R):K J 76 #[(.agg #[(.bool a),(.slice b c d),(.slice e f g),(.slice i j k)]),(.slice l m n),(.slice o p q)] w R:=xs [] [.agg [.bool (.var a),.slice b c d,.slice e f g,.slice i j k],.slice l m n,.slice o p q] Tryz.func76 ZL (by kernel_rfl) h
abbrev Z1h.n:Nat:=105
def Z1h.Vc(a b:Array Value)(w:Q)(R:J2->Q->Prop):Prop :=
 ∀c d,ZC w 82 a c d ->
 ∀a e,ZC d 82 b a e ->
 ∃b,e.cell? (c.add 33)=Y (.bool b) /\
 ((b=F ->
 ∃d,e.cell? (c.add 33)=Y (.bool d) /\
 ∃f,e.cell? (a.add 33)=Y (.bool f) /\
 ∃g,T J (Z02 .eql 4 (JE 14) (JE 16) (.bool d) (.bool f)) e=JB g e /\
 ∃d,g=(.bool d) /\
 R (G (.bool d)) e) /\
 (b=J4 ->
 ∃b,e.cell? (a.add 33)=Y (.bool b) /\
 ((b=F ->
 ∃d,e.cell? (c.add 33)=Y (.bool d) /\
 ∃f,e.cell? (a.add 33)=Y (.bool f) /\
 ∃g,T J (Z02 .eql 4 (JE 14) (JE 16) (.bool d) (.bool f)) e=JB g e /\
 ∃d,g=(.bool d) /\
 R (G (.bool d)) e) /\
 (b=J4 ->
 ∃b,e.cell? (c.add 32)=Y (X b) /\
 ∃d,e.cell? (a.add 32)=Y (X d) /\
 ∃f,T J (Z02 .neq 4 (JE 20) (JE 23) (.bool (JN b)) (.bool (JN d))) e=JB f e /\
 ∃b,f=(.bool b) /\
 ((b=J4 ->
 R (G (.bool F)) e) /\
 (b=F ->
 ∃b,e.cell? (c.add 32)=Y (X b) /\
 ((b=N ->
 ∃d,ZG e c 32 d /\
 ∃f,ZG e a 32 f /\
 ∃g,T J (Z02 .eql 27 (JE 29) (JE 31) (.agg d) (.agg f)) e=JB g e /\
 ∃d,g=(.bool d) /\
 R (G (.bool d)) e) /\
 (b≠N ->
 ∀b,ZJ e b ->
 ∃d,b.cell? (c.add 32)=Y (X d) /\
 ∃c,d=Y c /\
 ∃d e f g h i j,b.cell? c=Y (.bool d) /\
 b.cell? (c.add 1)=Y (.slice e f g) /\
 b.cell? (c.add 2)=Y (.slice h i j) /\
 ∃c,b.cell? (a.add 32)=Y (X c) /\
 ∃a,c=Y a /\
 ∃c k l m n o p,b.cell? a=Y (.bool c) /\
 b.cell? (a.add 1)=Y (.slice k l m) /\
 b.cell? (a.add 2)=Y (.slice n o p) /\
 K J 128 #[.agg #[.bool d,.slice e f g,.slice h i j],.agg #[.bool c,.slice k l m,.slice n o p]] b (fun a b =>
 ∃c,a=G (.bool c) /\
 R (G (.bool c)) b)))))))))
theorem Z1h.vc(a b w R)(h:Z1h.Vc a b w R):K J 105 #[(.agg a),(.agg b)] w R:=xs [] [.big 34 a,.big 34 b] Tryz.func105 ZL (by kernel_rfl) h
abbrev Z0V.n:Nat:=123
def Z0V.Vc(a:Option Addr)(b c:Nat)(d:Option Addr)(e f:Nat)(g:Int)(w:Q)(R:J2->Q->Prop):Prop :=
 ∀h i,ZC w 111 #[.bool F,.slice N 0 0,.slice N 0 0] h i ->
 (((e:Int)=1 ->
 ∃j,a=Y j /\
 ((0:Int)<=0/\0<(b:Int)) /\
 ∃k l m,i.cell? (j.add 0)=Y (.slice k l m) /\
 ((0:Int)<=g/\g<=(l:Int)) /\
 K J 120 #[.slice (subO k m g.toNat 1) (l-g.toNat) (m-g.toNat),.bool J4] i (fun j k =>
 ∃l m n o,j=G (W #[.slice l m n,.int O o]) /\
 ∀j,ZJ k j ->
 ∃k,d=Y k /\
 ((0:Int)<=0/\0<(e:Int)) /\
 ∃o p q,j.cell? ((k.add 0).add 1)=Y (.slice o p q) /\
 K J 137 #[.slice l m n] j (fun j l =>
 ∃m n r s t u v,j=G (.agg #[.bool m,.slice n r s,.slice t u v]) /\
 l.cell? ((k.add 0).add 1)=Y (.slice o p q) /\
 K J 137 #[.slice o p q] l (fun j k =>
 ∃l o p q x y z,j=G (.agg #[.bool l,.slice o p q,.slice x y z]) /\
 ∀j A,ZC k 111 #[.bool m,.slice n r s,.slice t u v,.bool l,.slice o p q,.slice x y z] j A ->
 Z1 A h (.bool J4)/\∀k,ZA A h (.bool J4) k ->
 Z1 k (h.add 1) (.slice N 0 0)/\∀l,ZA k (h.add 1) (.slice N 0 0) l ->
 Z1 l (h.add 2) (.slice (Y j) 2 2)/\∀k,ZA l (h.add 2) (.slice (Y j) 2 2) k ->
 ∃j l m n o p q,k.cell? h=Y (.bool j) /\
 k.cell? (h.add 1)=Y (.slice l m n) /\
 k.cell? (h.add 2)=Y (.slice o p q) /\
 R (G (.agg #[.bool j,.slice l m n,.slice o p q])) k)))) /\
 ((e:Int)≠1 ->
 ∀j,ZJ i j ->
 ∃i,a=Y i /\
 ((0:Int)<=0/\0<(b:Int)) /\
 ∃k l m,j.cell? (i.add 0)=Y (.slice k l m) /\
 ∃i,a=Y i /\
 ((0:Int)<=(Z O ((b:Int)-1))/\(Z O ((b:Int)-1))<(b:Int)) /\
 ∃n o p,j.cell? (i.add (J0 (Z O ((b:Int)-1))))=Y (.slice n o p) /\
 ∃(i:Int->Q->Prop)(p:Int->Q->Nat),i g j /\
 (∀(j:Int)(q:Nat->Value)(q:Q),i j q ->
 ∀r,ZJ q r ->
 ∃s,k=Y s /\
 ((0:Int)<=j/\j<(l:Int)) /\
 ∃l,r.cell? (s.add j.toNat)=Y (.int H l) /\
 ∃s,n=Y s /\
 ((0:Int)<=j/\j<(o:Int)) /\
 ∃n,r.cell? (s.add j.toNat)=Y (.int H n) /\
 ((l=n ->
 i (Z O (j+1)) r/\p (Z O (j+1)) r<p j q) /\
 (l≠n ->
 ((j>g ->
 ((0:Int)<=j/\j<=(m:Int)) /\
 ((0:Int)<=g/\g<=((j.toNat:Nat):Int)) /\
 K J 120 #[.slice (subO k m g.toNat 1) (j.toNat-g.toNat) (m-g.toNat),.bool F] r (fun i k =>
 ∃l m n o,i=G (W #[.slice l m n,.int O o]) /\
 K J 137 #[.slice l m n] k (fun i k =>
 ∃l m n o p q s,i=G (.agg #[.bool l,.slice m n o,.slice p q s]) /\
 K J 123 #[.slice a b c,.slice d e f,.int O j] k (fun e i =>
 ∃k t u v x y z,e=G (.agg #[.bool k,.slice t u v,.slice x y z]) /\
 K J 138 #[.agg #[.bool k,.slice t u v,.slice x y z]] i (fun e i =>
 ∃k t u v x y z,e=G (.agg #[.bool k,.slice t u v,.slice x y z]) /\
 ∀e A,ZC i 111 #[.bool l,.slice m n o,.slice p q s,.bool k,.slice t u v,.slice x y z] e A ->
 Z1 A h (.bool J4)/\∀i,ZA A h (.bool J4) i ->
 Z1 i (h.add 1) (.slice N 0 0)/\∀k,ZA i (h.add 1) (.slice N 0 0) k ->
 Z1 k (h.add 2) (.slice (Y e) 2 2)/\∀i,ZA k (h.add 2) (.slice (Y e) 2 2) i ->
 ∃e k l m n o p,i.cell? h=Y (.bool e) /\
 i.cell? (h.add 1)=Y (.slice k l m) /\
 i.cell? (h.add 2)=Y (.slice n o p) /\
 R (G (.agg #[.bool e,.slice k l m,.slice n o p])) i))))) /\
 (¬j>g ->
 ∀e i,ZC r 111 #[.bool F,.slice N 0 0,.slice N 0 0] e i ->
 Z1 i e (.bool J4)/\∀j,ZA i e (.bool J4) j ->
 Z1 j (e.add 1) (.slice N 0 0)/\∀i,ZA j (e.add 1) (.slice N 0 0) i ->
 Z1 i (e.add 2) (.slice N 0 0)/\∀j,ZA i (e.add 2) (.slice N 0 0) j ->
 ∃(i:Int->Int->Q->Prop)(k:Int->Int->Q->Nat),i 0 0 j /\
 (∀(j:Int)(l:Int)(m:Nat->Value)(m:Q),i j l m ->
 ((l<16 ->
 ∃(n:Int->Q->Prop),(∃(o:Int->Q->Prop)(p:Int->Q->Nat),o j m /\
 (∀(q:Int)(r:Nat->Value)(r:Q),o q r ->
 ((q<(b:Int) ->
 ∃s,a=Y s /\
 ((0:Int)<=q/\q<(b:Int)) /\
 ∃t u v,r.cell? (s.add q.toNat)=Y (.slice t u v) /\
 ∃s,t=Y s /\
 ((0:Int)<=g/\g<(u:Int)) /\
 ∃t,r.cell? (s.add g.toNat)=Y (.int H t) /\
 ((t=l ->
 o (Z O (q+1)) r/\p (Z O (q+1)) r<p q r) /\
 (t≠l ->
 n q r))) /\
 (¬q<(b:Int) ->
 n q r)))) /\
 (∀(b:Int)(o:Nat->Value)(o:Q),n b o ->
 ((b=j ->
 ∃n p q,o.cell? (e.add 2)=Y (.slice n p q) /\
 ∀r s,ZC o 111 #[.bool F,.slice N 0 0,.slice N 0 0] r s ->
 ∃t u,T J (builtinV J7 #[109,109] 109 #[.slice n p q,.slice (Y r) 1 1]) s=JB t u /\
 ∃n p q,t=(.slice n p q) /\
 Z1 u (e.add 2) (.slice n p q)/\∀r,ZA u (e.add 2) (.slice n p q) r ->
 i b (Z H (l+1)) r/\k b (Z H (l+1)) r<k j l m) /\
 (b≠j ->
 ∀n,ZJ o n ->
 ∃o p q,n.cell? (e.add 2)=Y (.slice o p q) /\
 ((0:Int)<=b/\b<=(c:Int)) /\
 ((0:Int)<=j/\j<=((b.toNat:Nat):Int)) /\
 ((0:Int)<=b/\b<=(f:Int)) /\
 ((0:Int)<=j/\j<=((b.toNat:Nat):Int)) /\
 K J 123 #[.slice (subO a c j.toNat 1) (b.toNat-j.toNat) (c-j.toNat),.slice (subO d f j.toNat 2) (b.toNat-j.toNat) (f-j.toNat),.int O (Z O (g+1))] n (fun a c =>
 ∃d f g n r s t,a=G (.agg #[.bool d,.slice f g n,.slice r s t]) /\
 c.cell? (e.add 2)=Y (.slice o p q) /\
 K J 138 #[.agg #[.bool d,.slice f g n,.slice r s t]] c (fun a c =>
 ∃d f g n r s t,a=G (.agg #[.bool d,.slice f g n,.slice r s t]) /\
 c.cell? (e.add 2)=Y (.slice o p q) /\
 ∀a u,ZC c 111 #[.bool d,.slice f g n,.slice r s t] a u ->
 u.cell? (e.add 2)=Y (.slice o p q) /\
 ∃c d,T J (builtinV J7 #[109,109] 109 #[.slice o p q,.slice (Y a) 1 1]) u=JB c d /\
 ∃a f g,c=(.slice a f g) /\
 Z1 d (e.add 2) (.slice a f g)/\∀c,ZA d (e.add 2) (.slice a f g) c ->
 i b (Z H (l+1)) c/\k b (Z H (l+1)) c<k j l m)))))) /\
 (¬l<16 ->
 ∃a b c,m.cell? (e.add 2)=Y (.slice a b c) /\
 ∀d f,ZC m 111 #[.bool F,.slice N 0 0,.slice N 0 0] d f ->
 ∃g i,T J (builtinV J7 #[109,109] 109 #[.slice a b c,.slice (Y d) 1 1]) f=JB g i /\
 ∃a b c,g=(.slice a b c) /\
 Z1 i (e.add 2) (.slice a b c)/\∀d,ZA i (e.add 2) (.slice a b c) d ->
 ∃a b c f g i j,d.cell? e=Y (.bool a) /\
 d.cell? (e.add 1)=Y (.slice b c f) /\
 d.cell? (e.add 2)=Y (.slice g i j) /\
 Z1 d h (.bool a)/\∀e,ZA d h (.bool a) e ->
 Z1 e (h.add 1) (.slice b c f)/\∀a,ZA e (h.add 1) (.slice b c f) a ->
 Z1 a (h.add 2) (.slice g i j)/\∀b,ZA a (h.add 2) (.slice g i j) b ->
 ∃a c d e f g i,b.cell? h=Y (.bool a) /\
 b.cell? (h.add 1)=Y (.slice c d e) /\
 b.cell? (h.add 2)=Y (.slice f g i) /\
 R (G (.agg #[.bool a,.slice c d e,.slice f g i])) b))))))))))
theorem Z0V.vc(a b c d e f g w R)(h:Z0V.Vc a b c d e f g w R):K J 123 #[(.slice a b c),(.slice d e f),(.int O g)] w R:=xs [(6,[(11,.cell (.int O))]),(14,[(15,.cell (.int O)),(81,.cell (.int H))]),(1000019,[(15,.cell (.int O))]),(17,[(15,.cell (.int O))])] [.slice a b c,.slice d e f,.int O g] Tryz.func123 ZL (by kernel_rfl) h
abbrev Z2Z.n:Nat:=138
def Z2Z.Vc(a:Bool)(b:Option Addr)(c d:Nat)(e:Option Addr)(f g:Nat)(w:Q)(R:J2->Q->Prop):Prop :=
 ∀h i,ZC w 111 #[.bool a,.slice b c d,.slice e f g] h i ->
 ∀a b,ZC i 111 #[.bool F,.slice N 0 0,.slice N 0 0] a b ->
 ∃c d e f g i j,b.cell? h=Y (.bool c) /\
 b.cell? (h.add 1)=Y (.slice d e f) /\
 b.cell? (h.add 2)=Y (.slice g i j) /\
 K J 143 #[.agg #[.bool c,.slice d e f,.slice g i j]] b (fun b c =>
 ∃d e f g,b=G (W #[.slice d e f,.int O g]) /\
 (((e:Int)<32 ->
 ∃b g i j k l m,c.cell? h=Y (.bool b) /\
 c.cell? (h.add 1)=Y (.slice g i j) /\
 c.cell? (h.add 2)=Y (.slice k l m) /\
 Z1 c a (.bool b)/\∀h,ZA c a (.bool b) h ->
 Z1 h (a.add 1) (.slice g i j)/\∀b,ZA h (a.add 1) (.slice g i j) b ->
 Z1 b (a.add 2) (.slice k l m)/\∀g,ZA b (a.add 2) (.slice k l m) g ->
 ∃b h i j k l m,g.cell? a=Y (.bool b) /\
 g.cell? (a.add 1)=Y (.slice h i j) /\
 g.cell? (a.add 2)=Y (.slice k l m) /\
 R (G (.agg #[.bool b,.slice h i j,.slice k l m])) g) /\
 (¬(e:Int)<32 ->
 ∀b g,ZC c 23 #[.slice d e f] b g ->
 K J 53 #[.slice (Y b) 1 1] g (fun b c =>
 ∃d,b=G (.agg d) /\
 ∀b e,ZC c 27 (JF 32 (.int H 0)) b e ->
 ∃c,T J (J3 27 (X (Y b)) (.agg d)) e=JB () c /\
 K J 137 #[.slice (Y b) 32 32] c (fun b c =>
 ∃d e f g h i j,b=G (.agg #[.bool d,.slice e f g,.slice h i j]) /\
 Z1 c a (.bool d)/\∀b,ZA c a (.bool d) b ->
 Z1 b (a.add 1) (.slice e f g)/\∀c,ZA b (a.add 1) (.slice e f g) c ->
 Z1 c (a.add 2) (.slice h i j)/\∀b,ZA c (a.add 2) (.slice h i j) b ->
 ∃c d e f g h i,b.cell? a=Y (.bool c) /\
 b.cell? (a.add 1)=Y (.slice d e f) /\
 b.cell? (a.add 2)=Y (.slice g h i) /\
 R (G (.agg #[.bool c,.slice d e f,.slice g h i])) b)))))
theorem Z2Z.vc(a b c d e f g w R)(h:Z2Z.Vc a b c d e f g w R):K J 138 #[(.agg #[(.bool a),(.slice b c d),(.slice e f g)])] w R:=xs [] [.agg [.bool (.var a),.slice b c d,.slice e f g]] Tryz.func138 ZL (by kernel_rfl) h
abbrev Z2x.n:Nat:=124
def Z2x.Vc(a:Bool)(b:Option Addr)(c d:Nat)(e:Option Addr)(f g:Nat)(w:Q)(R:J2->Q->Prop):Prop :=
 ∀h i,ZC w 111 #[.bool a,.slice b c d,.slice e f g] h i ->
 ∀a b,ZC i 82 #[.int H 0,.int H 0,.int H 0,.int H 0,.int H 0,.int H 0,.int H 0,.int H 0,.int H 0,.int H 0,.int H 0,.int H 0,.int H 0,.int H 0,.int H 0,.int H 0,.int H 0,.int H 0,.int H 0,.int H 0,.int H 0,.int H 0,.int H 0,.int H 0,.int H 0,.int H 0,.int H 0,.int H 0,.int H 0,.int H 0,.int H 0,.int H 0,X N,.bool F] a b ->
 ∃c d e f g i j,b.cell? h=Y (.bool c) /\
 b.cell? (h.add 1)=Y (.slice d e f) /\
 b.cell? (h.add 2)=Y (.slice g i j) /\
 K J 138 #[.agg #[.bool c,.slice d e f,.slice g i j]] b (fun b c =>
 ∃d e f g h i j,b=G (.agg #[.bool d,.slice e f g,.slice h i j]) /\
 K J 100 #[.agg #[.bool d,.slice e f g,.slice h i j]] c (fun b c =>
 ∃d,b=G (.agg d) /\
 ∃b,T J (J3 82 (X (Y a)) (.agg d)) c=JB () b /\
 ∃c,ZG b a 34 c /\
 R (G (.agg c)) b))
theorem Z2x.vc(a b c d e f g w R)(h:Z2x.Vc a b c d e f g w R):K J 124 #[(.agg #[(.bool a),(.slice b c d),(.slice e f g)])] w R:=xs [] [.agg [.bool (.var a),.slice b c d,.slice e f g]] Tryz.func124 ZL (by kernel_rfl) h
abbrev Z3e.n:Nat:=137
def Z3e.Vc(a:Option Addr)(b c:Nat)(w:Q)(R:J2->Q->Prop):Prop :=
 ∀d e,ZC w 111 #[.bool F,.slice N 0 0,.slice N 0 0] d e ->
 Z1 e d (.bool F)/\∀f,ZA e d (.bool F) f ->
 Z1 f (d.add 1) (.slice a b c)/\∀e,ZA f (d.add 1) (.slice a b c) e ->
 Z1 e (d.add 2) (.slice N 0 0)/\∀a,ZA e (d.add 2) (.slice N 0 0) a ->
 ∃b c e f g h i,a.cell? d=Y (.bool b) /\
 a.cell? (d.add 1)=Y (.slice c e f) /\
 a.cell? (d.add 2)=Y (.slice g h i) /\
 R (G (.agg #[.bool b,.slice c e f,.slice g h i])) a
theorem Z3e.vc(a b c w R)(h:Z3e.Vc a b c w R):K J 137 #[(.slice a b c)] w R:=xs [] [.slice a b c] Tryz.func137 ZL (by kernel_rfl) h
abbrev Z0c.n:Nat:=42
def Z0c.Vc(a:Option Addr)(b c:Nat)(c d:Array Value)(w:Q)(R:J2->Q->Prop):Prop :=
 ∀e f,ZC w 27 c e f ->
 ∀c g,ZC f 27 d c g ->
 ∃(d:Int->Q->Prop)(f:Int->Q->Nat),d 0 g /\
 (∀(g:Int)(h:Nat->Value)(h:Q),d g h ->
 ((g<(b:Int) ->
 ∃i,a=Y i /\
 ((0:Int)<=g/\g<(b:Int)) /\
 ∃j k l m n o,h.cell? (i.add (g.toNat*2))=Y (.slice j k l) /\
 h.cell? ((i.add (g.toNat*2)).add 1)=Y (.slice m n o) /\
 ∀i p,ZC h 53 #[.slice N 0 0,.slice N 0 0] i p ->
 Z1 p i (.slice j k l)/\∀q,ZA p i (.slice j k l) q ->
 Z1 q (i.add 1) (.slice m n o)/\∀j,ZA q (i.add 1) (.slice m n o) j ->
 ∀k,ZJ j k ->
 ∃j l m,k.cell? i=Y (.slice j l m) /\
 (((l:Int)≠32 ->
 R (G (.bool F)) k) /\
 ((l:Int)=32 ->
 ∃j l m,k.cell? i=Y (.slice j l m) /\
 K J 62 #[.slice j l m,.slice (Y e) 32 32] k (fun e j =>
 ∃k,e=G (.int O k) /\
 ((k<0 ->
 R (G (.bool F)) j) /\
 (¬k<0 ->
 ∃e k l,j.cell? i=Y (.slice e k l) /\
 K J 62 #[.slice e k l,.slice (Y c) 32 32] j (fun c e =>
 ∃j,c=G (.int O j) /\
 ((j>0 ->
 R (G (.bool F)) e) /\
 (¬j>0 ->
 ∀c,ZJ e c ->
 ((g>0 ->
 ∃e,a=Y e /\
 ((0:Int)<=(Z O (g-1))/\(Z O (g-1))<(b:Int)) /\
 ∃a j k,c.cell? (e.add ((J0 (Z O (g-1)))*2))=Y (.slice a j k) /\
 ∃e l m,c.cell? i=Y (.slice e l m) /\
 K J 62 #[.slice a j k,.slice e l m] c (fun a e =>
 ∃j,a=G (.int O j) /\
 ((j>=0 ->
 R (G (.bool F)) e) /\
 (¬j>=0 ->
 ∃a j k,e.cell? (i.add 1)=Y (.slice a j k) /\
 (((j:Int)=0 ->
 R (G (.bool F)) e) /\
 ((j:Int)≠0 ->
 ∃a j k,e.cell? (i.add 1)=Y (.slice a j k) /\
 (((j:Int)>1024 ->
 R (G (.bool F)) e) /\
 (¬(j:Int)>1024 ->
 d (Z O (g+1)) e/\f (Z O (g+1)) e<f g h)))))))) /\
 (¬g>0 ->
 ∃a e j,c.cell? (i.add 1)=Y (.slice a e j) /\
 (((e:Int)=0 ->
 R (G (.bool F)) c) /\
 ((e:Int)≠0 ->
 ∃a e j,c.cell? (i.add 1)=Y (.slice a e j) /\
 (((e:Int)>1024 ->
 R (G (.bool F)) c) /\
 (¬(e:Int)>1024 ->
 d (Z O (g+1)) c/\f (Z O (g+1)) c<f g h))))))))))))))) /\
 (¬g<(b:Int) ->
 R (G (.bool J4)) h)))
theorem Z0c.vc(a b c d e w R)(h:Z0c.Vc a b c d e w R):K J 42 #[(.slice a b c),(.agg d),(.agg e)] w R:=xs [(2,[(11,.cell (.int O))])] [.slice a b c,.big 32 d,.big 32 e] Tryz.func42 ZL (by kernel_rfl) h
abbrev Z4W.n:Nat:=128
def Z4W.Vc(a:Bool)(b:Option Addr)(c d:Nat)(e:Option Addr)(f g:Nat)(h:Bool)(i:Option Addr)(j k:Nat)(l:Option Addr)(m n:Nat)(w:Q)(R:J2->Q->Prop):Prop :=
 ∀o p,ZC w 111 #[.bool a,.slice b c d,.slice e f g] o p ->
 ∀a b,ZC p 111 #[.bool h,.slice i j k,.slice l m n] a b ->
 ∃c d e f g h i,b.cell? o=Y (.bool c) /\
 b.cell? (o.add 1)=Y (.slice d e f) /\
 b.cell? (o.add 2)=Y (.slice g h i) /\
 K J 143 #[.agg #[.bool c,.slice d e f,.slice g h i]] b (fun b c =>
 ∃d e f g,b=G (W #[.slice d e f,.int O g]) /\
 ∃b h i j k l m,c.cell? a=Y (.bool b) /\
 c.cell? (a.add 1)=Y (.slice h i j) /\
 c.cell? (a.add 2)=Y (.slice k l m) /\
 K J 143 #[.agg #[.bool b,.slice h i j,.slice k l m]] c (fun a b =>
 ∃c h i j,a=G (W #[.slice c h i,.int O j]) /\
 ((g=0 ->
 ((j=0 ->
 K J 82 #[.slice d e f,.slice c h i] b (fun a c =>
 ∃d,a=G (.bool d) /\
 R (G (.bool d)) c)) /\
 (j≠0 ->
 R (G (.bool F)) b))) /\
 (g≠0 ->
 R (G (.bool F)) b))))
theorem Z4W.vc(a b c d e f g i j k l m n o w R)(h:Z4W.Vc a b c d e f g i j k l m n o w R):K J 128 #[(.agg #[(.bool a),(.slice b c d),(.slice e f g)]),(.agg #[(.bool i),(.slice j k l),(.slice m n o)])] w R:=xs [] [.agg [.bool (.var a),.slice b c d,.slice e f g],.agg [.bool (.var i),.slice j k l,.slice m n o]] Tryz.func128 ZL (by kernel_rfl) h
abbrev Zb.n:Nat:=106
def Zb.Vc(a:Option Addr)(b c:Nat)(c:Value)(w:Q)(R:J2->Q->Prop):Prop :=
 ∃(d:Int->Q->Prop)(e:Int->Q->Nat),d 0 w /\
 (∀(f:Int)(g:Nat->Value)(g:Q),d f g ->
 ((f<(b:Int) ->
 ∃h,a=Y h /\
 ((0:Int)<=f/\f<(b:Int)) /\
 ∃a i j,g.cell? (h.add f.toNat)=Y (.slice a i j) /\
 Z3E J c #[.slice a i j] g (fun a c =>
 ∃h,a=G (.bool h) /\
 ((h=J4 ->
 R (G (.int O f)) c) /\
 (h=F ->
 d (Z O (f+1)) c/\e (Z O (f+1)) c<e f g)))) /\
 (¬f<(b:Int) ->
 R (G (.int O (-1))) g)))
theorem Zb.vc(a b c d w R)(h:Zb.Vc a b c d w R):K J 106 #[(.slice a b c),d] w R:=xs [(2,[(8,.cell (.int O))])] [.slice a b c,.raw d] Tryz.func106 ZL (by kernel_rfl) h
abbrev Z13.n:Nat:=80
def Z13.Vc(a:Option Addr)(b c:Nat)(c:Option Addr)(d e:Nat)(w:Q)(R:J2->Q->Prop):Prop :=
 ∀f g,ZC w 118 #[.slice N 0 0,.slice N 0 0,.slice N 0 0,.bool F] f g ->
 ∃(h:Int->Q->Prop)(i:Int->Q->Nat),h 0 g /\
 (∀(g:Int)(j:Nat->Value)(j:Q),h g j ->
 ((g<(b:Int) ->
 ∃k,a=Y k /\
 ((0:Int)<=g/\g<(b:Int)) /\
 ∃l m n,j.cell? (k.add (g.toNat*2))=Y (.slice l m n) /\
 K J 54 #[.slice l m n] j (fun k l =>
 ∃m n o,k=G (.slice m n o) /\
 ∃(k:Bool->Q->Prop),(∀p,ZJ l p ->
 (((n:Int)>=(d:Int) ->
 ((0:Int)<=(d:Int)/\(d:Int)<=(o:Int)) /\
 ∃l,T J (J8 23 9 (.slice m (J0 (d:Int)) o)) p=JB l p /\
 ∃q,l=(J9 q) /\
 ∃l,T J (J8 23 9 (.slice c d e)) p=JB l p /\
 ∃c,l=(J9 c) /\
 k (Z8S .eql q c) p) /\
 (¬(n:Int)>=(d:Int) ->
 k F p))) /\
 (∀(c:Bool)(e:Nat->Value)(e:Q),k c e ->
 ((c=J4 ->
 ∀k,ZJ e k ->
 ∃l p q,k.cell? f=Y (.slice l p q) /\
 ∃r,a=Y r /\
 ((0:Int)<=g/\g<(b:Int)) /\
 ∃a s t u v x,k.cell? (r.add (g.toNat*2))=Y (.slice a s t) /\
 k.cell? ((r.add (g.toNat*2)).add 1)=Y (.slice u v x) /\
 ∀r y,ZC k 53 #[.slice a s t,.slice u v x] r y ->
 y.cell? f=Y (.slice l p q) /\
 ∃a k,T J (builtinV J7 #[22,22] 22 #[.slice l p q,.slice (Y r) 1 1]) y=JB a k /\
 ∃l p q,a=(.slice l p q) /\
 Z1 k f (.slice l p q)/\∀a,ZA k f (.slice l p q) a ->
 ∃k l p,a.cell? (f.add 1)=Y (.slice k l p) /\
 ∀q r,ZC a 23 #[.slice m n o] q r ->
 ∃a m,T J (builtinV J7 #[31,31] 31 #[.slice k l p,.slice (Y q) 1 1]) r=JB a m /\
 ∃k l n,a=(.slice k l n) /\
 Z1 m (f.add 1) (.slice k l n)/\∀a,ZA m (f.add 1) (.slice k l n) a ->
 h (Z O (g+1)) a/\i (Z O (g+1)) a<i g j) /\
 (c=F ->
 h (Z O (g+1)) e/\i (Z O (g+1)) e<i g j))))) /\
 (¬g<(b:Int) ->
 ∃a b c,j.cell? f=Y (.slice a b c) /\
 (((b:Int)=0 ->
 ∀a c,ZC j 5 #[.int H 128] a c ->
 R (G (.slice (Y a) 1 1)) c) /\
 ((b:Int)≠0 ->
 ∃a b c,j.cell? f=Y (.slice a b c) /\
 K J 91 #[X (Y f),.int O 0,.int O (b:Int),.int O (d:Int)] j (fun a b =>
 ∃c d e,a=G (.slice c d e) /\
 R (G (.slice c d e)) b))))))
theorem Z13.vc(a b c d e f w R)(h:Z13.Vc a b c d e f w R):K J 80 #[(.slice a b c),(.slice d e f)] w R:=xs [(3,[(6,.cell (.int O))]),(1000007,[(36,.cell (.bool))])] [.slice a b c,.slice d e f] Tryz.func80 ZL (by kernel_rfl) h
abbrev Zf.n:Nat:=77
def Zf.Vc(a:Addr)(b:Int)(w:Q)(R:J2->Q->Prop):Prop :=
 ∃c,w.cell? (a.add 68)=Y (.int O c) /\
 ((c=0 ->
 Z1 w (a.add 68) (.int O b)/\∀d,ZA w (a.add 68) (.int O b) d ->
 R (G (W #[])) d) /\
 (c≠0 ->
 R (G (W #[])) w))
theorem Zf.vc(a b w R)(h:Zf.Vc a b w R):K J 77 #[(X (Y a)),(.int O b)] w R:=xs [] [.addr a,.int O b] Tryz.func77 ZL (by kernel_rfl) h
abbrev Za.n:Nat:=78
def Za.Vc(a:Addr)(b:Option Addr)(c d:Nat)(w:Q)(R:J2->Q->Prop):Prop :=
 ∃(e:Int->Int->Q->Prop)(f:Int->Int->Q->Nat),e 0 0 w /\
 (∀(g:Int)(h:Int)(i:Nat->Value)(i:Q),e g h i ->
 ∃j k l,i.cell? a=Y (.slice j k l) /\
 ((h<(k:Int) ->
 ∃j l m,i.cell? a=Y (.slice j l m) /\
 ∃a,j=Y a /\
 ((0:Int)<=h/\h<(l:Int)) /\
 ∃j l m,i.cell? (a.add (h.toNat*2))=Y (.slice j l m) /\
 K J 54 #[.slice j l m] i (fun a j =>
 ∃l m n,a=G (.slice l m n) /\
 ∀a,ZJ j a ->
 (((c:Int)<=(m:Int) ->
 ((0:Int)<=(c:Int)/\(c:Int)<=(n:Int)) /\
 ∃j,T J (J8 23 9 (.slice l (J0 (c:Int)) n)) a=JB j a /\
 ∃l,j=(J9 l) /\
 ∃j,T J (J8 23 9 (.slice b c d)) a=JB j a /\
 ∃b,j=(J9 b) /\
 ((Z8S .eql l b=J4 ->
 e (Z O (g+1)) (Z O (h+1)) a/\f (Z O (g+1)) (Z O (h+1)) a<f g h i) /\
 (Z8S .eql l b=F ->
 e g (Z O (h+1)) a/\f g (Z O (h+1)) a<f g h i))) /\
 (¬(c:Int)<=(m:Int) ->
 e g (Z O (h+1)) a/\f g (Z O (h+1)) a<f g h i)))) /\
 (¬h<(k:Int) ->
 R (G (.int O g)) i)))
theorem Za.vc(a b c d w R)(h:Za.Vc a b c d w R):K J 78 #[(X (Y a)),(.slice b c d)] w R:=xs [(3,[(5,.cell (.int O)),(6,.cell (.int O))])] [.addr a,.slice b c d] Tryz.func78 ZL (by kernel_rfl) h
abbrev ZS.n:Nat:=47
def ZS.Vc(a:Addr)(b:Bool)(c:Option Addr)(d e:Nat)(f:Option Addr)(g h:Nat)(i:Option Addr)(j k:Nat)(w:Q)(R:J2->Q->Prop):Prop :=
 ∀l m,ZC w 111 #[.bool b,.slice c d e,.slice f g h] l m ->
 ∃b,m.cell? (a.add 68)=Y (.int O b) /\
 ((b≠0 ->
 R (G (W #[])) m) /\
 (b=0 ->
 (((j:Int)>64 ->
 K J 77 #[X (Y a),.int O 161] m (fun b c =>
 b=G (W #[]) /\
 R (G (W #[])) c)) /\
 (¬(j:Int)>64 ->
 K J 78 #[X (Y a),.slice i j k] m (fun b c =>
 ∃d,b=G (.int O d) /\
 ∀b,ZJ c b ->
 ∃c,ZG b (a.add 2) 32 c /\
 ∃e,ZG b (a.add 34) 32 e /\
 K J 46 #[.slice i j k,.agg c,.agg e] b (fun b c =>
 ∃e,b=G (.int O e) /\
 ((e<0 ->
 R (G (W #[])) c) /\
 (¬e<0 ->
 ((e>0 ->
 ∀b,ZJ c b ->
 ∃f g h m n o p,b.cell? l=Y (.bool f) /\
 b.cell? (l.add 1)=Y (.slice g h m) /\
 b.cell? (l.add 2)=Y (.slice n o p) /\
 ∃q r s,b.cell? a=Y (.slice q r s) /\
 K J 79 #[.agg #[.bool f,.slice g h m,.slice n o p]] b (fun b f =>
 ∃g h m,b=G (.slice g h m) /\
 f.cell? a=Y (.slice q r s) /\
 ∃b,T J (J8 23 9 (.slice g h m)) f=JB b f /\
 ∃n,b=(J9 n) /\
 K J 80 #[.slice q r s,.slice i j k] f (fun b f =>
 ∃o p q,b=G (.slice o p q) /\
 T J (J8 23 9 (.slice g h m)) f=JB (J9 n) f /\
 ∃b,T J (J8 23 9 (.slice o p q)) f=JB b f /\
 ∃g,b=(J9 g) /\
 ((Z8S .neq n g=J4 ->
 K J 77 #[X (Y a),.int O 163] f (fun b h =>
 b=G (W #[]) /\
 ∃b,h.cell? (a.add 67)=Y (.int O b) /\
 Z1 h (a.add 67) (.int O (Z O (b+d)))/\∀m,ZA h (a.add 67) (.int O (Z O (b+d))) m ->
 R (G (W #[])) m)) /\
 (Z8S .neq n g=F ->
 ∃b,f.cell? (a.add 67)=Y (.int O b) /\
 Z1 f (a.add 67) (.int O (Z O (b+d)))/\∀g,ZA f (a.add 67) (.int O (Z O (b+d))) g ->
 R (G (W #[])) g))))) /\
 (¬e>0 ->
 ∃(b:Q->Prop),(∃e,c.cell? l=Y (.bool e) /\
 ((e=F ->
 ∃f g h,c.cell? (l.add 1)=Y (.slice f g h) /\
 (((g:Int)=0 ->
 ((d>0 ->
 K J 77 #[X (Y a),.int O 163] c (fun f h =>
 f=G (W #[]) /\
 R (G (W #[])) h)) /\
 (¬d>0 ->
 R (G (W #[])) c))) /\
 ((g:Int)≠0 ->
 b  c))) /\
 (e=J4 ->
 b  c))) /\
 (∀  (c:Nat->Value)(c:Q),b  c ->
 ∃b,c.cell? l=Y (.bool b) /\
 ((b=J4 ->
 ∃d e f g h m n,c.cell? l=Y (.bool d) /\
 c.cell? (l.add 1)=Y (.slice e f g) /\
 c.cell? (l.add 2)=Y (.slice h m n) /\
 K J 81 #[X (Y a),.agg #[.bool d,.slice e f g,.slice h m n],.slice i j k] c (fun d e =>
 d=G (W #[]) /\
 R (G (W #[])) e)) /\
 (b=F ->
 ∀b d,ZC c 27 (JF 32 (.int H 0)) b d ->
 ∀c,ZJ d c ->
 ∃d e f,c.cell? (l.add 1)=Y (.slice d e f) /\
 ∃g h,T J (builtinV .copy #[23,23] 3 #[.slice (Y b) 32 32,.slice d e f]) c=JB g h /\
 ∃c,g=(.int O c) /\
 ∃(c:Int->Q->Prop)(d:Int->Q->Nat),c 0 h /\
 (∀(e:Int)(f:Nat->Value)(f:Q),c e f ->
 ∃g h l,f.cell? (a.add 1)=Y (.slice g h l) /\
 ((e<(h:Int) ->
 ∀g,ZJ f g ->
 ∃l m n,g.cell? (a.add 1)=Y (.slice l m n) /\
 ∃n,l=Y n /\
 ((0:Int)<=e/\e<(m:Int)) /\
 ∃l,ZG g (n.add (e.toNat*33)) 32 l /\
 ∃m,ZG g b 32 m /\
 ∃n,T J (Z02 .eql 27 (JE 101) (JE 102) (.agg l) (.agg m)) g=JB n g /\
 ∃l,n=(.bool l) /\
 ((l=J4 ->
 ∃m n o,g.cell? (a.add 66)=Y (.slice m n o) /\
 ∃o,m=Y o /\
 ((0:Int)<=e/\e<(n:Int)) /\
 Z1 g (o.add e.toNat) (.bool J4)/\∀m,ZA g (o.add e.toNat) (.bool J4) m ->
 ∃n o p,m.cell? (a.add 1)=Y (.slice n o p) /\
 ∃p,n=Y p /\
 ((0:Int)<=e/\e<(o:Int)) /\
 ∃n o q,m.cell? ((p.add (e.toNat*33)).add 32)=Y (.slice n o q) /\
 ∀p,ZJ m p ->
 ∃m,ZG p b 32 m /\
 K J 56 #[.slice n o q] p (fun p r =>
 ∃s,p=G (.agg s) /\
 ZG r b 32 m /\
 ∃b,T J (Z02 .neq 27 (JE 119) (JE 120) (.agg s) (.agg m)) r=JB b r /\
 ∃m,b=(.bool m) /\
 ((m=J4 ->
 K J 77 #[X (Y a),.int O 163] r (fun b p =>
 b=G (W #[]) /\
 R (G (W #[])) p)) /\
 (m=F ->
 K J 59 #[.slice n o q] r (fun b m =>
 ∃p,b=G (.int O p) /\
 ((p≠0 ->
 K J 77 #[X (Y a),.int O 161] m (fun b r =>
 b=G (W #[]) /\
 R (G (W #[])) r)) /\
 (p=0 ->
 K J 60 #[.slice n o q] m (fun b m =>
 ∃n o p q r s t u,b=G (W #[.agg #[.bool n,.slice o p q,.slice r s t],.int O u]) /\
 ∀b u,ZC m 111 #[.bool F,.slice N 0 0,.slice N 0 0] b u ->
 Z1 u b (.bool n)/\∀m,ZA u b (.bool n) m ->
 Z1 m (b.add 1) (.slice o p q)/\∀n,ZA m (b.add 1) (.slice o p q) n ->
 Z1 n (b.add 2) (.slice r s t)/\∀m,ZA n (b.add 2) (.slice r s t) m ->
 ∃n o p q r s t,m.cell? b=Y (.bool n) /\
 m.cell? (b.add 1)=Y (.slice o p q) /\
 m.cell? (b.add 2)=Y (.slice r s t) /\
 K J 81 #[X (Y a),.agg #[.bool n,.slice o p q,.slice r s t],.slice i j k] m (fun b i =>
 b=G (W #[]) /\
 R (G (W #[])) i))))))))) /\
 (l=F ->
 c (Z O (e+1)) g/\d (Z O (e+1)) g<d e f))) /\
 (¬e<(h:Int) ->
 K J 77 #[X (Y a),.int O 160] f (fun a b =>
 a=G (W #[]) /\
 R (G (W #[])) b)))))))))))))))))
theorem ZS.vc(a b c d e f g i j k l w R)(h:ZS.Vc a b c d e f g i j k l w R):K J 47 #[(X (Y a)),(.agg #[(.bool b),(.slice c d e),(.slice f g i)]),(.slice j k l)] w R:=xs [(1000014,[]),(19,[(9,.cell (.int O))])] [.addr a,.agg [.bool (.var b),.slice c d e,.slice f g i],.slice j k l] Tryz.func47 ZL (by kernel_rfl) h
abbrev Zg.n:Nat:=110
def Zg.Vc(a:Addr)(b:Option Addr)(c d:Nat)(e:Option Addr)(f g:Nat)(w:Q)(R:J2->Q->Prop):Prop :=
 (((f:Int)≠64 ->
 K J 77 #[X (Y a),.int O 161] w (fun h i =>
 h=G (W #[]) /\
 R (G (W #[])) i)) /\
 ((f:Int)=64 ->
 ∀h,ZJ w h ->
 ∃i,ZG h (a.add 2) 32 i /\
 ∃j,ZG h (a.add 34) 32 j /\
 K J 46 #[.slice e f g,.agg i,.agg j] h (fun h i =>
 ∃j,h=G (.int O j) /\
 ((j<0 ->
 R (G (W #[])) i) /\
 (¬j<0 ->
 ∃(h:Int->Q->Prop)(j:Int->Q->Nat),h 0 i /\
 (∀(i:Int)(k:Nat->Value)(k:Q),h i k ->
 ∃l m n,k.cell? a=Y (.slice l m n) /\
 ((i<(m:Int) ->
 ∀l,ZJ k l ->
 ∃n o p,l.cell? a=Y (.slice n o p) /\
 ∃p,n=Y p /\
 ((0:Int)<=i/\i<(o:Int)) /\
 ∃n o q,l.cell? (p.add (i.toNat*2))=Y (.slice n o q) /\
 ∃p,T J (J8 23 9 (.slice e f g)) l=JB p l /\
 ∃r,p=(J9 r) /\
 K J 54 #[.slice n o q] l (fun l n =>
 ∃o p q,l=G (.slice o p q) /\
 T J (J8 23 9 (.slice e f g)) n=JB (J9 r) n /\
 ∃e,T J (J8 23 9 (.slice o p q)) n=JB e n /\
 ∃f,e=(J9 f) /\
 ((Z8S .eql f r=J4 ->
 ∀e,ZJ n e ->
 ∃g l o,e.cell? a=Y (.slice g l o) /\
 ∃o,g=Y o /\
 ((0:Int)<=i/\i<(l:Int)) /\
 ∃g l p,e.cell? ((o.add (i.toNat*2)).add 1)=Y (.slice g l p) /\
 ∃o,T J (J8 23 9 (.slice g l p)) e=JB o e /\
 ∃g,o=(J9 g) /\
 ∃l,T J (J8 23 9 (.slice b c d)) e=JB l e /\
 ∃b,l=(J9 b) /\
 ((Z8S .neq g b=J4 ->
 K J 77 #[X (Y a),.int O 163] e (fun c d =>
 c=G (W #[]) /\
 ∃c,d.cell? (a.add 67)=Y (.int O c) /\
 Z1 d (a.add 67) (.int O (Z O (c+1)))/\∀l,ZA d (a.add 67) (.int O (Z O (c+1))) l ->
 R (G (W #[])) l)) /\
 (Z8S .neq g b=F ->
 ∃b,e.cell? (a.add 67)=Y (.int O b) /\
 Z1 e (a.add 67) (.int O (Z O (b+1)))/\∀c,ZA e (a.add 67) (.int O (Z O (b+1))) c ->
 R (G (W #[])) c))) /\
 (Z8S .eql f r=F ->
 h (Z O (i+1)) n/\j (Z O (i+1)) n<j i k)))) /\
 (¬i<(m:Int) ->
 K J 77 #[X (Y a),.int O 163] k (fun a b =>
 a=G (W #[]) /\
 R (G (W #[])) b)))))))))
theorem Zg.vc(a b c d e f g w R)(h:Zg.Vc a b c d e f g w R):K J 110 #[(X (Y a)),(.slice b c d),(.slice e f g)] w R:=xs [(4,[(6,.cell (.int O))])] [.addr a,.slice b c d,.slice e f g] Tryz.func110 ZL (by kernel_rfl) h
abbrev Zk.n:Nat:=81
def Zk.Vc(a:Addr)(b:Bool)(c:Option Addr)(d e:Nat)(f:Option Addr)(g h:Nat)(i:Option Addr)(j k:Nat)(w:Q)(R:J2->Q->Prop):Prop :=
 ∀l m,ZC w 111 #[.bool b,.slice c d e,.slice f g h] l m ->
 ∃b c d,m.cell? (l.add 2)=Y (.slice b c d) /\
 (((c:Int)=2 ->
 ∃b d e,m.cell? (l.add 2)=Y (.slice b d e) /\
 ∃e,b=Y e /\
 ((0:Int)<=0/\0<(d:Int)) /\
 ∃b d f,m.cell? ((e.add 0).add 1)=Y (.slice b d f) /\
 K J 95 #[.slice b d f] m (fun b d =>
 ∃e f g h n,b=G (W #[.slice e f g,.bool h,.int O n]) /\
 ∃b n,T J (builtinV J7 #[23,23] 23 #[.slice N 0 0,.slice i j k]) d=JB b n /\
 ∃d o p,b=(.slice d o p) /\
 ∃b q,T J (builtinV J7 #[23,23] 23 #[.slice d o p,.slice e f g]) n=JB b q /\
 ∃d e f,b=(.slice d e f) /\
 ((h=J4 ->
 ∃b g n,q.cell? (l.add 2)=Y (.slice b g n) /\
 ∃n,b=Y n /\
 ((0:Int)<=1/\1<(g:Int)) /\
 ∃b g o,q.cell? ((n.add 3).add 1)=Y (.slice b g o) /\
 K J 110 #[X (Y a),.slice b g o,.slice d e f] q (fun b g =>
 b=G (W #[]) /\
 R (G (W #[])) g)) /\
 (h=F ->
 ∃b g h,q.cell? (l.add 2)=Y (.slice b g h) /\
 ∃h,b=Y h /\
 ((0:Int)<=1/\1<(g:Int)) /\
 ∃b g n o p r s,q.cell? (h.add 3)=Y (.bool b) /\
 q.cell? ((h.add 3).add 1)=Y (.slice g n o) /\
 q.cell? ((h.add 3).add 2)=Y (.slice p r s) /\
 K J 47 #[X (Y a),.agg #[.bool b,.slice g n o,.slice p r s],.slice d e f] q (fun b d =>
 b=G (W #[]) /\
 R (G (W #[])) d))))) /\
 ((c:Int)≠2 ->
 ∃(b:Q->Prop),(∃c d e,m.cell? (l.add 2)=Y (.slice c d e) /\
 ∃e,c=Y e /\
 ((0:Int)<=16/\16<(d:Int)) /\
 ∃c d f,m.cell? ((e.add 48).add 1)=Y (.slice c d f) /\
 (((d:Int)>0 ->
 ∃c e f,m.cell? (l.add 2)=Y (.slice c e f) /\
 ∃f,c=Y f /\
 ((0:Int)<=16/\16<(e:Int)) /\
 ∃c e g,m.cell? ((f.add 48).add 1)=Y (.slice c e g) /\
 K J 110 #[X (Y a),.slice c e g,.slice i j k] m (fun c e =>
 c=G (W #[]) /\
 b  e)) /\
 (¬(d:Int)>0 ->
 b  m))) /\
 (∀  (c:Nat->Value)(c:Q),b  c ->
 ∃(b:Int->Q->Prop)(d:Int->Q->Nat),b 0 c /\
 (∀(c:Int)(e:Nat->Value)(e:Q),b c e ->
 ((c<16 ->
 ∀f,ZJ e f ->
 ∃g h m,f.cell? (l.add 2)=Y (.slice g h m) /\
 ∃n,g=Y n /\
 ((0:Int)<=c/\c<(h:Int)) /\
 ∃o p q r s t u,f.cell? (n.add (c.toNat*3))=Y (.bool o) /\
 f.cell? ((n.add (c.toNat*3)).add 1)=Y (.slice p q r) /\
 f.cell? ((n.add (c.toNat*3)).add 2)=Y (.slice s t u) /\
 ((∃v x,T J (builtinV J7 #[23,23] 23 #[.slice N 0 0,.slice i j k]) f=JB v x /\
 ∃y z A,v=(.slice y z A) /\
 x.cell? (n.add (c.toNat*3))=Y (.bool o) /\
 x.cell? ((n.add (c.toNat*3)).add 1)=Y (.slice p q r) /\
 x.cell? ((n.add (c.toNat*3)).add 2)=Y (.slice s t u) /\
 x.cell? (l.add 2)=Y (.slice g h m) /\
 ∀v B,ZC x 5 #[.int H (Z H c)] v B ->
 B.cell? (n.add (c.toNat*3))=Y (.bool o) /\
 B.cell? ((n.add (c.toNat*3)).add 1)=Y (.slice p q r) /\
 B.cell? ((n.add (c.toNat*3)).add 2)=Y (.slice s t u) /\
 B.cell? (l.add 2)=Y (.slice g h m) /\
 ∃x C,T J (builtinV J7 #[23,23] 23 #[.slice y z A,.slice (Y v) 1 1]) B=JB x C /\
 ∃v y z,x=(.slice v y z) /\
 C.cell? (n.add (c.toNat*3))=Y (.bool o) /\
 C.cell? ((n.add (c.toNat*3)).add 1)=Y (.slice p q r) /\
 C.cell? ((n.add (c.toNat*3)).add 2)=Y (.slice s t u) /\
 C.cell? (l.add 2)=Y (.slice g h m) /\
 K J 47 #[X (Y a),.agg #[.bool o,.slice p q r,.slice s t u],.slice v y z] C (fun v x =>
 v=G (W #[]) /\
 b (Z O (c+1)) x/\d (Z O (c+1)) x<d c e)) /\
 (∀v x,ZC f 5 #[.int H (Z H c)] v x ->
 x.cell? (n.add (c.toNat*3))=Y (.bool o) /\
 x.cell? ((n.add (c.toNat*3)).add 1)=Y (.slice p q r) /\
 x.cell? ((n.add (c.toNat*3)).add 2)=Y (.slice s t u) /\
 x.cell? (l.add 2)=Y (.slice g h m) /\
 ∃f y,T J (builtinV J7 #[23,23] 23 #[.slice N 0 0,.slice i j k]) x=JB f y /\
 ∃i j k,f=(.slice i j k) /\
 y.cell? (n.add (c.toNat*3))=Y (.bool o) /\
 y.cell? ((n.add (c.toNat*3)).add 1)=Y (.slice p q r) /\
 y.cell? ((n.add (c.toNat*3)).add 2)=Y (.slice s t u) /\
 y.cell? (l.add 2)=Y (.slice g h m) /\
 ∃f x,T J (builtinV J7 #[23,23] 23 #[.slice i j k,.slice (Y v) 1 1]) y=JB f x /\
 ∃i j k,f=(.slice i j k) /\
 x.cell? (n.add (c.toNat*3))=Y (.bool o) /\
 x.cell? ((n.add (c.toNat*3)).add 1)=Y (.slice p q r) /\
 x.cell? ((n.add (c.toNat*3)).add 2)=Y (.slice s t u) /\
 x.cell? (l.add 2)=Y (.slice g h m) /\
 K J 47 #[X (Y a),.agg #[.bool o,.slice p q r,.slice s t u],.slice i j k] x (fun a f =>
 a=G (W #[]) /\
 b (Z O (c+1)) f/\d (Z O (c+1)) f<d c e)))) /\
 (¬c<16 ->
 R (G (W #[])) e))))))
theorem Zk.vc(a b c d e f g i j k l w R)(h:Zk.Vc a b c d e f g i j k l w R):K J 81 #[(X (Y a)),(.agg #[(.bool b),(.slice c d e),(.slice f g i)]),(.slice j k l)] w R:=xs [(1000009,[]),(10,[(10,.cell (.int O))])] [.addr a,.agg [.bool (.var b),.slice c d e,.slice f g i],.slice j k l] Tryz.func81 ZL (by kernel_rfl) h
abbrev Z0o.n:Nat:=19
def Z0o.Vc(a b:Array Value)(c:Option Addr)(d e:Nat)(w:Q)(R:J2->Q->Prop):Prop :=
 ∀e f,ZC w 27 a e f ->
 ∀a g,ZC f 27 b a g ->
 ∀b,ZJ g b ->
 K J 23 #[.slice (Y a) 32 32,.slice (Y e) 32 32] b (fun b f =>
 ∃g,b=G (.int O g) /\
 ((g<0 ->
 R (G (.bool F)) f) /\
 (¬g<0 ->
 ∃(b:Int->Q->Prop)(g:Int->Q->Nat),b 0 f /\
 (∀(f:Int)(h:Nat->Value)(h:Q),b f h ->
 ((f<(d:Int) ->
 ∃i,c=Y i /\
 ((0:Int)<=f/\f<(d:Int)) /\
 ∃j k l,h.cell? (i.add (f.toNat*2))=Y (.slice j k l) /\
 (((k:Int)≠32 ->
 R (G (.bool F)) h) /\
 ((k:Int)=32 ->
 K J 23 #[.slice j k l,.slice (Y e) 32 32] h (fun e i =>
 ∃m,e=G (.int O m) /\
 ((m<0 ->
 R (G (.bool F)) i) /\
 (¬m<0 ->
 K J 23 #[.slice j k l,.slice (Y a) 32 32] i (fun a e =>
 ∃i,a=G (.int O i) /\
 ((i>0 ->
 R (G (.bool F)) e) /\
 (¬i>0 ->
 ((f>0 ->
 ∃a,c=Y a /\
 ((0:Int)<=(Z O (f-1))/\(Z O (f-1))<(d:Int)) /\
 ∃i m n,e.cell? (a.add ((J0 (Z O (f-1)))*2))=Y (.slice i m n) /\
 K J 23 #[.slice i m n,.slice j k l] e (fun a i =>
 ∃j,a=G (.int O j) /\
 ((j>=0 ->
 R (G (.bool F)) i) /\
 (¬j>=0 ->
 ∃a,c=Y a /\
 ((0:Int)<=f/\f<(d:Int)) /\
 ∃j k l,i.cell? ((a.add (f.toNat*2)).add 1)=Y (.slice j k l) /\
 (((k:Int)<1 ->
 R (G (.bool F)) i) /\
 (¬(k:Int)<1 ->
 ∃a,c=Y a /\
 ((0:Int)<=f/\f<(d:Int)) /\
 ∃j k l,i.cell? ((a.add (f.toNat*2)).add 1)=Y (.slice j k l) /\
 (((k:Int)>1024 ->
 R (G (.bool F)) i) /\
 (¬(k:Int)>1024 ->
 b (Z O (f+1)) i/\g (Z O (f+1)) i<g f h)))))))) /\
 (¬f>0 ->
 ∃a,c=Y a /\
 ((0:Int)<=f/\f<(d:Int)) /\
 ∃i j k,e.cell? ((a.add (f.toNat*2)).add 1)=Y (.slice i j k) /\
 (((j:Int)<1 ->
 R (G (.bool F)) e) /\
 (¬(j:Int)<1 ->
 ∃a,c=Y a /\
 ((0:Int)<=f/\f<(d:Int)) /\
 ∃c i j,e.cell? ((a.add (f.toNat*2)).add 1)=Y (.slice c i j) /\
 (((i:Int)>1024 ->
 R (G (.bool F)) e) /\
 (¬(i:Int)>1024 ->
 b (Z O (f+1)) e/\g (Z O (f+1)) e<g f h))))))))))))))) /\
 (¬f<(d:Int) ->
 R (G (.bool J4)) h))))))
theorem Z0o.vc(a b c d e w R)(h:Z0o.Vc a b c d e w R):K J 19 #[(.agg a),(.agg b),(.slice c d e)] w R:=xs [(4,[(7,.cell (.int O))])] [.big 32 a,.big 32 b,.slice c d e] Tryz.func19 ZL (by kernel_rfl) h
abbrev Zj.n:Nat:=20
def Zj.Vc(a b c:Array Value)(d:Option Addr)(e f:Nat)(g:Option Addr)(h i:Nat)(w:Q)(R:J2->Q->Prop):Prop :=
 ∀j k,ZC w 27 a j k ->
 ∀a l,ZC k 27 b a l ->
 ∀b k,ZC l 27 c b k ->
 ∀c,ZJ k c ->
 ∃k,ZG c a 32 k /\
 ∃l,ZG c b 32 l /\
 ∃m n,T J (Instr.makeSlice 105 (.int O (h:Int)) (.int O (h:Int))) c=JB m n /\
 ∃c o p,m=(.slice c o p) /\
 ZG n b 32 l /\
 ZG n a 32 k /\
 JO k=32 /\
 JO l=32 /\
 ∀m q,ZC n 107 (setsAt (lputL (lputL (setsAt (setsAt #[.slice N 0 0,.slice N 0 0,.int H 0,.int H 0,.int H 0,.int H 0,.int H 0,.int H 0,.int H 0,.int H 0,.int H 0,.int H 0,.int H 0,.int H 0,.int H 0,.int H 0,.int H 0,.int H 0,.int H 0,.int H 0,.int H 0,.int H 0,.int H 0,.int H 0,.int H 0,.int H 0,.int H 0,.int H 0,.int H 0,.int H 0,.int H 0,.int H 0,.int H 0,.int H 0,.int H 0,.int H 0,.int H 0,.int H 0,.int H 0,.int H 0,.int H 0,.int H 0,.int H 0,.int H 0,.int H 0,.int H 0,.int H 0,.int H 0,.int H 0,.int H 0,.int H 0,.int H 0,.int H 0,.int H 0,.int H 0,.int H 0,.int H 0,.int H 0,.int H 0,.int H 0,.int H 0,.int H 0,.int H 0,.int H 0,.int H 0,.int H 0,.slice N 0 0,.int O 0,.int O 0] 0 [.slice d e f]) 1 [.slice g h i]) 2 32 k) 34 32 l) 66 [.slice c o p]) m q ->
 ∃c,ZG q a 32 c /\
 ∃a,ZG q b 32 a /\
 K J 46 #[.slice N 0 0,.agg c,.agg a] q (fun a b =>
 ∃c,a=G (.int O c) /\
 ((c>0 ->
 K J 8 #[.slice d e f] b (fun a d =>
 ∃f g i k,a=G (W #[.agg f,.slice g i k]) /\
 ∀a g,ZC d 27 (JF 32 (.int H 0)) a g ->
 ∃d,T J (J3 27 (X (Y a)) (.agg f)) g=JB () d /\
 ∃f,ZG d a 32 f /\
 ∃a,ZG d j 32 a /\
 ∃g,T J (Z02 .eql 27 (JE 34) (JE 35) (.agg f) (.agg a)) d=JB g d /\
 ∃a,g=(.bool a) /\
 ((a=J4 ->
 R (G (.bool (decide ((h:Int)=0)))) d) /\
 (a=F ->
 R (G (.bool F)) d)))) /\
 (¬c>0 ->
 ∀a c,ZC b 111 #[.bool F,.slice N 0 0,.slice N 0 0] a c ->
 Z1 c a (.bool F)/\∀b,ZA c a (.bool F) b ->
 Z1 b (a.add 1) (.slice N 0 0)/\∀c,ZA b (a.add 1) (.slice N 0 0) c ->
 Z1 c (a.add 2) (.slice N 0 0)/\∀b,ZA c (a.add 2) (.slice N 0 0) b ->
 ∃(c:Q->Prop),(∀d,ZJ b d ->
 ∃b,ZG d j 32 b /\
 K J 40 #[] d (fun d f =>
 ∃g,d=G (.agg g) /\
 ZG f j 32 b /\
 ∃d,T J (Z02 .neq 27 (JE 43) (JE 44) (.agg b) (.agg g)) f=JB d f /\
 ∃b,d=(.bool b) /\
 ((b=J4 ->
 Z1 f (a.add 1) (.slice (Y j) 32 32)/\∀d,ZA f (a.add 1) (.slice (Y j) 32 32) d ->
 c  d) /\
 (b=F ->
 c  f)))) /\
 (∀  (b:Nat->Value)(b:Q),c  b ->
 ∃c d f g h i j,b.cell? a=Y (.bool c) /\
 b.cell? (a.add 1)=Y (.slice d f g) /\
 b.cell? (a.add 2)=Y (.slice h i j) /\
 K J 47 #[X (Y m),.agg #[.bool c,.slice d f g,.slice h i j],.slice N 0 0] b (fun a b =>
 a=G (W #[]) /\
 ∃(a:Int->Q->Prop)(c:Int->Q->Nat),a 0 b /\
 (∀(b:Int)(d:Nat->Value)(d:Q),a b d ->
 ∃f g h,d.cell? (m.add 66)=Y (.slice f g h) /\
 ((b<(g:Int) ->
 ∃f h i,d.cell? (m.add 66)=Y (.slice f h i) /\
 ∃i,f=Y i /\
 ((0:Int)<=b/\b<(h:Int)) /\
 ∃f,d.cell? (i.add b.toNat)=Y (.bool f) /\
 ((f=F ->
 R (G (.bool F)) d) /\
 (f=J4 ->
 a (Z O (b+1)) d/\c (Z O (b+1)) d<c b d))) /\
 (¬b<(g:Int) ->
 ∃a,d.cell? (m.add 68)=Y (.int O a) /\
 ((a=0 ->
 ∃b,d.cell? (m.add 67)=Y (.int O b) /\
 R (G (.bool (decide (b=(e:Int))))) d) /\
 (a≠0 ->
 R (G (.bool F)) d))))))))))
theorem Zj.vc(a b c d e f g i j w R)(h:Zj.Vc a b c d e f g i j w R):K J 20 #[(.agg a),(.agg b),(.agg c),(.slice d e f),(.slice g i j)] w R:=xs [(1000008,[]),(10,[(15,.cell (.int O))])] [.big 32 a,.big 32 b,.big 32 c,.slice d e f,.slice g i j] Tryz.func20 ZL (by kernel_rfl) h
abbrev Zo.n:Nat:=5
def Zo.Vc(a b c:Array Value)(d:Option Addr)(e f:Nat)(g:Option Addr)(h i:Nat)(w:Q)(R:J2->Q->Prop):Prop :=
 ∀j k,ZC w 27 a j k ->
 ∀a l,ZC k 27 b a l ->
 ∀b k,ZC l 27 c b k ->
 K J 6 #[] k (fun c k =>
 ∃l,c=G (.bool l) /\
 ((l=F ->
 R (G (.bool F)) k) /\
 (l=J4 ->
 (((e:Int)>40 ->
 R (G (.bool J4)) k) /\
 (¬(e:Int)>40 ->
 (((h:Int)>60 ->
 R (G (.bool J4)) k) /\
 (¬(h:Int)>60 ->
 ∃(c:Int->Q->Prop)(l:Int->Q->Nat),c 0 k /\
 (∀(k:Int)(m:Nat->Value)(m:Q),c k m ->
 ((k<(h:Int) ->
 ∃n,g=Y n /\
 ((0:Int)<=k/\k<(h:Int)) /\
 ∃o p q,m.cell? ((n.add (k.toNat*33)).add 32)=Y (.slice o p q) /\
 (((p:Int)>2000 ->
 R (G (.bool J4)) m) /\
 (¬(p:Int)>2000 ->
 c (Z O (k+1)) m/\l (Z O (k+1)) m<l k m))) /\
 (¬k<(h:Int) ->
 ∃c,ZG m j 32 c /\
 ∃k,ZG m a 32 k /\
 ∃l,ZG m b 32 l /\
 K J 18 #[.agg c,.agg k,.agg l,.slice d e f,.slice g h i] m (fun c k =>
 ∃l,c=G (.int O l) /\
 ∃c,ZG k a 32 c /\
 ∃m,ZG k b 32 m /\
 K J 19 #[.agg c,.agg m,.slice d e f] k (fun c k =>
 ∃m,c=G (.bool m) /\
 ((m=F ->
 R (G (.bool (decide (l=164)))) k) /\
 (m=J4 ->
 ∃c,ZG k j 32 c /\
 ∃j,ZG k a 32 j /\
 ∃a,ZG k b 32 a /\
 K J 20 #[.agg c,.agg j,.agg a,.slice d e f,.slice g h i] k (fun a b =>
 ∃c,a=G (.bool c) /\
 ∃a,T J (Z02 .eql 4 (JE 50) (JE 56) (.bool (decide (l=0))) (.bool c)) b=JB a b /\
 ∃c,a=(.bool c) /\
 R (G (.bool c)) b)))))))))))))))
theorem Zo.vc(a b c d e f g i j w R)(h:Zo.Vc a b c d e f g i j w R):K J 5 #[(.agg a),(.agg b),(.agg c),(.slice d e f),(.slice g i j)] w R:=xs [(6,[(11,.cell (.int O))])] [.big 32 a,.big 32 b,.big 32 c,.slice d e f,.slice g i j] Tryz.func5 ZL (by kernel_rfl) h
end Go.Proofs.YtfghidehlnfdiaaGreat
end
section
namespace Go.Proofs.YtfghidehlnfdiaaGreat
open Go Go.Vcg Go.Trie
theorem ZGo:∀{p x y z:By},ltB x y->ltB y z->p <+: x->p <+: z->p <+: y
 |[],_,_,_,_,_,_,_=>List.nil_prefix
 |c::p,x,y,z,h1,h2,hx,hz=>by
  obtain⟨r,rfl⟩:=hx;obtain⟨t,rfl⟩:=hz;cases y with
  |nil=>exact(Z4G _ h1).elim
  |cons d y =>
   simp only[JL,ltB]at h1 h2
   have hcd:c=d:=by
    rcases h1 with h1|⟨h1,_⟩
    ·rcases h2 with h2|⟨h2,_⟩
     ·have:=UInt8.lt_iff_toNat_lt.1 h1;have:=UInt8.lt_iff_toNat_lt.1 h2;omega
     ·exact h2.symm
    ·exact h1
   subst hcd;have h1':=(h1.resolve_left (UInt8.lt_irrefl c)).2;have h2':=(h2.resolve_left (UInt8.lt_irrefl c)).2;obtain⟨q,hq⟩:=ZGo h1' h2' ⟨r,rfl⟩ ⟨t,rfl⟩;exact⟨q,by rw[JL,hq]⟩
theorem ZFK{α:Type}{f:α->Bool}{l:List α}{j n:Nat}(hjn:j<=n)(h1:∀i (hi:i<l.length),i<j->f l[i]=F)(h2:∀i (hi:i<l.length),j<=i->i<n->f l[i]=J4)(h3:∀i (hi:i<l.length),n<=i->f l[i]=F):l.filter f=(l.drop j).take (n-j):=by
 have e:l=l.take j++((l.drop j).take (n-j)++l.drop n):=by
  have:l.drop n=(l.drop j).drop (n-j):=by rw[List.drop_drop];congr 1;omega
  rw[this,JG,JG]
 have f1:(l.take j).filter f=[]:=List.filter_eq_nil_iff.2 (fun x hx=>by
  obtain⟨i,hi,rfl⟩:=J6 hx;rw[JD]at hi;rw[JJ,h1 i (by omega) (by omega)];decide)
 have f2:((l.drop j).take (n-j)).filter f=(l.drop j).take (n-j):=List.filter_eq_self.2 (fun x hx=>by
  obtain⟨i,hi,rfl⟩:=J6 hx;rw[JD,J1]at hi;rw[JJ,JK];exact h2 _ (by omega) (by omega) (by omega))
 have f3:(l.drop n).filter f=[]:=List.filter_eq_nil_iff.2 (fun x hx=>by
  obtain⟨i,hi,rfl⟩:=J6 hx;rw[J1]at hi;rw[JK,h3 _ (by omega) (by omega)];decide)
 conv=>lhs;rw[e]
 rw[JI,JI,f1,f2,f3,List.nil_append,List.append_nil]
theorem Z3M.get{w:Q}{lab:Nat->Nat}{c cb:Nat}{ls:List By}{o:Option Addr}{n k:Nat}(h:Z3M w lab c cb ls o n k){j:Nat}(hj:j<ls.length):∃g ob kb,o=Y ⟨g,0,N⟩/\w.cell? ⟨g,j,N⟩=Y (.slice ob ls[j].length kb)/\CBy w lab cb ob ls[j]/\ls[j].length<=kb:=by
 obtain⟨_,vs,hO,hl,hC⟩:=h;obtain⟨ob,kb,h1,h2,h3⟩:=hC j hj;obtain⟨g,ho,hc⟩:=hO.own.cell h1;exact⟨g,ob,kb,ho,hc,h2,h3⟩
abbrev Z69(E:RS):List By:=E.map fun e=>nibbles e.1
structure VfS (E:RS) (a b:By) (P:RS) (D:Nat) (w:Q) (lab:Nat->Nat) (U:List By):Prop where
 ex:∃oa ka ob kb op kp ol kl mS m,CB w lab 1 D 102 #[.slice oa a.length ka,.slice ob b.length kb,.slice op E.length kp,.slice ol E.length kl,JH (Y mS),.bool F,JH (Y m)]/\CBy w lab 6 oa a/\CBy w lab 6 ob b/\Z3M w lab 4 6 (Z69 E) op E.length kp/\Z2J w lab 0 ol E/\E.length<=kl/\ZJ2 w lab 9 0 P mS /\
  ∃es:List (H32×Value),CM (fun _=>True) ZHx w lab 2 m es/\(es.map fun x=>x.1.1)=U/\∀x∈es,x.2=.agg #[]
section
variable{E:RS}{a b:By}{P:RS}{D:Nat}{w w':Q}{lab lab':Nat->Nat}{U:List By}
theorem VfS.stp{S:Nat->Prop}(h:VfS E a b P D w lab U)(s:Stp S w lab w' lab')(h0:¬S 0)(h1:¬S 1)(h2:¬S 2)(h4:¬S 4)(h6:¬S 6)(h9:¬S 9):VfS E a b P D w' lab' U:=by
 obtain⟨oa,ka,ob,kb,op,kp,ol,kl,mS,m,e1,e2,e3,e4,e5,e6,e7,es,e8,e9⟩:=h.ex;exact⟨oa,ka,ob,kb,op,kp,ol,kl,mS,m,e1.stp s h1,e2.stp s h6,e3.stp s h6,e4.stp s h4 h6,e5.stp s h0,e6,e7.stp s h9 h0,es,e8.stp s h2,e9⟩
theorem VfS.no(h:VfS E a b P D w lab U)(s:Stp NoS w lab w' lab'):VfS E a b P D w' lab' U:=h.stp s (fun h=>h) (fun h=>h) (fun h=>h) (fun h=>h) (fun h=>h) (fun h=>h)
theorem VfS.nob(h:VfS E a b P D w lab U)(M:Vcg.Mod NoB w w'):VfS E a b P D w' (ext lab w.heap.size 5) U:=h.no (Stp.of_nob M 5)
theorem Z8o{op opx:Option Addr}{kp k:Nat}{path:By}{d2:Nat}(h:Z3M w lab 4 6 (Z69 E) op E.length kp)(hd:Blk w d2 23 #[.slice opx path.length k])(hp:RdB w opx path)(hE:E.length<=2^20) :
  K J Zb.n #[.slice op E.length kp,.func (.func 107) #[] #[X (Y ⟨d2,0,N⟩)]] w (fun e w'=>w'=w/\((e=G (.int O (-1))/\under E path=[])\/∃j:Nat,e=G (.int O (j:Int))/\∃hj:j<E.length,path.isPrefixOf (nibbles E[j].1)=J4/\∀i(hi:i<E.length),i<j->path.isPrefixOf (nibbles E[i].1)=F)):=by
 refine ZD fun R hR=>Zb.vc _ _ _ _ _ _ ?_;unfold Zb.Vc;refine⟨fun i w'=>∃j:Nat,i=(j:Int)/\j<=E.length/\w'=w/\∀i(hi:i<E.length),i<j->path.isPrefixOf (nibbles E[i].1)=F,fun i _=>((E.length:Int)-i).toNat,⟨0,rfl,Nat.zero_le _,rfl,fun i hi h=>absurd h (by omega)⟩,?_⟩;rintro _ _ w⟨j,rfl,hj,rfl,hno⟩;refine⟨fun hlt=>?_,fun hge=>?_⟩
 ·have hjl:j<E.length:=by omega
  obtain⟨g,ob,kb,rfl,hc,hb,hkb⟩:=h.get (j:=j) (by simpa using hjl);rw[JM]at hc hb hkb;refine⟨_,rfl,⟨by omega,by omega⟩,_,_,_,by rw[J5,Z3,Nat.zero_add];exact hc,⟨107,#[],_,rfl,by kernel_rfl,?_⟩⟩;refine Z0w.vc _ _ _ _ _ _ ?_;unfold Z0w.Vc;refine⟨_,_,_,hd.rd1 rfl,?_⟩;refine(Z2j hb.rd hkb hp).mono ?_;rintro _ w⟨rfl,rfl⟩;refine⟨_,rfl,_,rfl,fun ht=>hR _ _ ⟨rfl,.inr ⟨j,rfl,hjl,ht,hno⟩⟩,fun hf=>⟨⟨j+1,by rw[Z0 (by omega) (by omega)];omega,hjl,rfl,fun i hi hij=>?_⟩,by dsimp only;rw[Z0 (by omega) (by omega)];omega⟩⟩;by_cases he:i=j
  ·subst he;exact hf
  ·exact hno i hi (by omega)
 ·refine hR _ _ ⟨rfl,.inl ⟨rfl,List.filter_eq_nil_iff.2 (fun e he=>?_)⟩⟩
  obtain⟨i,hi,rfl⟩:=J6 he;rw[hno i hi (by omega)];decide
theorem Z6c(hE:EOk E a b)(hl:E.length<=2^20)(hI:VfS E a b P D w lab U){o:Option Addr}{k:Nat}{path:By}(hp:CBy w lab 6 o path) :
  K J Z0A.n #[X (Y ⟨D,0,N⟩),.slice o path.length k] w (fun e w'=>Vcg.Mod NoB w w'/\∃fr to:Nat,e=G (W #[.int O (fr:Int),.int O (to:Int)])/\fr<=to/\to<=E.length/\under E path=(E.drop fr).take (to-fr)):=by
 refine ZD fun R hR=>Z0A.vc _ _ _ _ _ _ ?_;unfold Z0A.Vc;rintro d2 w1⟨rfl,rfl⟩;have M1:=Mod.alloc (S:=NoB) w (.cells #[.slice o path.length k] 23);have st1:Stp NoS w lab (w.alloc (.cells #[.slice o path.length k] 23)) (ext lab w.heap.size 5):=Stp.alloc NoS w lab _ 5;have X1:=Blk.new w 23 #[.slice o path.length k];have I1:=hI.no st1;have P1:=hp.stp st1 (fun h=>h);generalize w.heap.size=d2 at *
 generalize w.alloc (.cells #[.slice o path.length k] 23)=w1 at *
 generalize ext lab d2 5=lab1 at *
 obtain⟨oa,ka,ob,kb,op,kp,ol,kl,mS,m,e1,e2,e3,e4,e5,e6,e7,_⟩:=I1.ex;have c2:∀{w':Q},Vcg.Mod NoB w1 w'->World.cell? w' (Addr.add ⟨D,0,N⟩ 2)=Y (.slice op E.length kp):=fun M=>by rw[Z3];exact(e1.blk.mod' M).rd1 rfl
 refine⟨_,_,_,c2 (Mod.refl w1),?_⟩;refine(Z8o e4 X1 P1.rd hl).mono ?_;rintro _ w1⟨rfl,⟨rfl,hu⟩|⟨j,rfl,hjl,hj,hno⟩⟩
 ·exact⟨_,rfl,fun _=>hR _ _ ⟨M1,0,0,rfl,Nat.le_refl _,Nat.zero_le _,by rw[hu];rfl⟩,fun h=>absurd h (by decide)⟩
 ·refine⟨_,rfl,fun h=>absurd h (by omega),fun _=>?_⟩
  refine⟨fun i w'=>∃n:Nat,i=(n:Int)/\j<=n/\n<=E.length/\Vcg.Mod NoB w1 w'/\∀i(hi:i<E.length),j<=i->i<n->path.isPrefixOf (nibbles E[i].1)=J4,fun i _=>((E.length:Int)-i).toNat,⟨j,rfl,Nat.le_refl _,by omega,Mod.refl w1,fun i hi h1 h2=>absurd h1 (by omega)⟩,?_⟩;rintro _ _ w2⟨n,rfl,hjn,hn,M2,hyes⟩;rintro _ rfl;have M3:=M2.step_drew;generalize w2.drew=w3 at *
  have fin:(∀hnl:n<E.length,path.isPrefixOf (nibbles E[n].1)=F)->∀w',Vcg.Mod NoB w1 w'->R (G (W #[.int O (j:Int),.int O (n:Int)])) w':=fun hend w' M=>by
   refine hR _ _ ⟨M1.none_trans M,j,n,rfl,hjn,hn,ZFK hjn hno hyes (fun i hi hni=>?_)⟩;by_cases he:i=n
   ·subst he;exact hend hi
   ·have hnl:n<E.length:=by omega
    refine Bool.eq_false_iff.2 (fun hi'=>?_);have hs:=List.pairwise_iff_getElem.1 hE.srt;have hjn':j≠n:=fun e=>by subst e;rw[hend hnl]at hj;cases hj
    have h1:=Z3c (hs j n hjl hnl (by omega));have h2:=Z3c (hs n i hnl hi (by omega));have:=ZGo h1 h2 (List.isPrefixOf_iff_prefix.1 hj) (List.isPrefixOf_iff_prefix.1 hi');rw[<-List.isPrefixOf_iff_prefix,hend hnl]at this;cases this
  refine⟨_,_,_,c2 M3,fun hlt=>?_,fun hge=>fin (fun h=>absurd h (by omega)) _ M3⟩;have hnl:n<E.length:=by omega
  obtain⟨g,oc,kc,rfl,hc,hb,hkc⟩:=e4.get (j:=n) (by simpa using hnl);rw[JM]at hc hb hkc;have hgl:g<w1.heap.size:=e4.2.choose_spec.1.own.lt ⟨_,rfl,rfl⟩;refine⟨_,_,_,c2 M3,_,rfl,⟨by omega,by omega⟩,_,_,_,by rw[J5,Z3,Nat.zero_add,ZN M3 hgl (fun h=>h)];exact hc,_,_,_,(X1.mod' M3).rd1 rfl,?_⟩;refine(Z2j (hb.rd.mod' M3) hkc (P1.rd.mod' M3)).mono ?_;rintro _ w4⟨rfl,rfl⟩;refine⟨_,rfl,fun ht=>⟨⟨n+1,by rw[Z0 (by omega) (by omega)];omega,by omega,hnl,M3,fun i hi h1 h2=>?_⟩,by dsimp only;rw[Z0 (by omega) (by omega)];omega⟩,fun hf=>fin (fun _=>hf) _ M3⟩;by_cases he:i=n
  ·subst he;exact ht
  ·exact hyes i hi h1 (by omega)
end
section
variable{E:RS}{a b:By}{P:RS}{D:Nat}{w w':Q}{lab lab':Nat->Nat}{U:List By}
theorem ZGT{n:Int}(hn:n≠0){w:Q}{R R':J2->Q->Prop}(h:R (V (Z2u n)) w):K J Z2S.n #[.int O n] w (fun e w'=>(∃ch,e=V ch/\R (V ch) w')\/R' e w'):=by
 refine(Z1D w n).mono ?_;rintro e w'⟨rfl,he⟩;rw[if_neg hn]at he;exact .inl ⟨_,he,h⟩
theorem ZDt(hE:EOk E a b)(hl:E.length<=2^20)(hI:VfS E a b P D w lab U){o ov:Option Addr}{k kv:Nat}{path v:By}(hp:CBy w lab 6 o path)(hv:RdB w ov v) :
  K J Z0B.n #[X (Y ⟨D,0,N⟩),.slice o path.length k,.slice ov v.length kv] w (fun e w'=>Vcg.Mod NoB w w'/\ZHz (valueV E a b path v) e):=by
 refine ZD fun R hR=>Z0B.vc _ _ _ _ _ _ _ _ _ ?_;unfold Z0B.Vc;have hv161:path.length≠64->valueV E a b path v=Y 161:=fun h=>if_pos h;refine⟨fun w'=>w'=w/\path.length=64,⟨fun hne=>ZGT (by decide) (hR _ _ ⟨Mod.refl w,by rw[hv161 (by omega)];exact⟨rfl,by decide⟩⟩),fun he=>⟨rfl,by omega⟩⟩,?_⟩;rintro _ w⟨rfl,h64⟩
 have hval:valueV E a b path v=(if Z0C a b path= -1 then(N:Option Int)else match under E path with
  |e::_=>if e.2=v then(N:Option Int)else Y 163
  |[]=>Y 163):=if_neg (by omega)
 obtain⟨oa,ka,ob,kb,op,kp,ol,kl,mS,m,e1,e2,e3,e4,e5,e6,e7,_⟩:=hI.ex;refine⟨_,_,_,_,_,_,e1.blk.rd1 rfl,by rw[Z3];exact e1.blk.rd1 rfl,?_⟩;refine(ZAR (k:=k) e2.rd e3.rd hp.rd (by omega)).mono ?_;rintro _ w1⟨rfl,M1⟩;refine .inr ⟨_,rfl,fun h1=>?_,fun h1=>?_⟩
 ·have ho:Z0C a b path= -1:=by
    unfold Z6A at h1;split at h1
    ·assumption
    ·split at h1<;>cases h1
  exact hR _ _ ⟨M1,by rw[hval,if_pos ho];rfl⟩
 ·have ho:Z0C a b path≠ -1:=fun h=>h1 (by unfold Z6A;rw[if_pos h])
  rw[if_neg ho]at hval;have st1:Stp NoS w lab w1 (ext lab w.heap.size 5):=Stp.of_nob M1 5;refine(Z6c hE hl (hI.nob M1) (hp.stp st1 (fun h=>h)) (k:=k)).mono ?_;rintro _ w2⟨M2,fr,to,rfl,hft,hto,hu⟩;have M02:=M1.none_trans M2;have hul:(under E path).length=to-fr:=by rw[hu,JD,J1];omega
  refine .inr ⟨_,_,rfl,fun he=>?_,fun hne=>?_⟩
  ·have hn:under E path=[]:=JA (by omega)
   rw[hn]at hval;exact ZGT (by decide) (hR _ _ ⟨M02,by rw[hval];exact⟨rfl,by decide⟩⟩)
  ·have hfl:fr<E.length:=by omega
   obtain⟨g,f,ok,kk,ov',kv',q1,q2,q3,q4,q5,q6,q7⟩:=e5 fr hfl
   have hhd:∃r,under E path=E[fr]::r:=by
    rw[hu,JC hfl,show to-fr=(to-fr-1)+1 by omega,List.take_succ_cons];exact⟨_,rfl⟩
   obtain⟨r,hr⟩:=hhd;rw[hr]at hval;simp only at hval;refine⟨_,_,_,by rw[Z3];exact(e1.blk.mod' M02).rd1 rfl,_,q1,⟨by omega,by omega⟩,_,_,_,by rw[J5,Z3,Z3,show f+fr*2+1=f+(fr*2+1) by omega,ZN M02 q2 (fun h=>h)];exact q6,?_⟩;refine(Z2q (q7.rd.mod' M02) (hv.mod' M02)).mono ?_;rintro _ w3⟨rfl,rfl⟩;refine .inr ⟨_,rfl,fun hf=>?_,fun ht=>?_⟩
   ·rw[if_neg (of_decide_eq_false hf)]at hval
    exact ZGT (by decide) (hR _ _ ⟨M02,by rw[hval];exact⟨rfl,by decide⟩⟩)
   ·rw[if_pos (of_decide_eq_true ht)]at hval
    exact hR _ _ ⟨M02,by rw[hval];rfl⟩
theorem ZFW(hE:EOk E a b)(hl:E.length<=2^20)(hI:VfS E a b P D w lab U){xs:List It}{bb:Bool}{s1 s2 s3:Option Addr×Nat×Nat}{o:Option Addr}{k:Nat}{path:By}(hg:Z2p (.l xs))(hn:NvC (fun b=>lab b≠6) w xs bb s1 s2 s3)(hp:CBy w lab 6 o path)(hpl:path.length<=64) :
  K J Z1g.n #[nvV bb s1 s2 s3,.slice o path.length k,.func (.func 75) #[X (Y ⟨D,0,N⟩)] #[]] w (fun e w'=>Vcg.Mod NoB w w'/\ZHz (ZD1 E a b xs path) e):=by
 refine ZD fun R hR=>Z1g.vc _ _ _ _ _ _ _ _ _ _ _ _ _ _ _ _ ?_;unfold Z1g.Vc;rintro d1 w1⟨rfl,rfl⟩;have M1:=Mod.alloc (S:=NoB) w (.cells #[.bool bb,.slice s1.1 s1.2.1 s1.2.2,.slice s2.1 s2.2.1 s2.2.2,.slice s3.1 s3.2.1 s3.2.2] 86);have N1:=Blk.new w 86 #[.bool bb,.slice s1.1 s1.2.1 s1.2.2,.slice s2.1 s2.2.1 s2.2.2,.slice s3.1 s3.2.1 s3.2.2];have st1:Stp NoS w lab (w.alloc (.cells #[.bool bb,.slice s1.1 s1.2.1 s1.2.2,.slice s2.1 s2.2.1 s2.2.2,.slice s3.1 s3.2.1 s3.2.2] 86)) (ext lab w.heap.size 5):=Stp.alloc NoS w lab _ 5;have I1:=hI.no st1;have hn1:=hn.stp st1 (fun h=>h);have P1:=hp.stp st1 (fun h=>h);generalize w.heap.size=D1 at *
 generalize w.alloc (.cells #[.bool bb,.slice s1.1 s1.2.1 s1.2.2,.slice s2.1 s2.2.1 s2.2.2,.slice s3.1 s3.2.1 s3.2.2] 86)=w1 at *
 generalize ext lab D1 5=lab1 at *
 have fin:∀{r:Option Int}{w2:Q}{lab2:Nat->Nat}{o2:Option Addr}{k2:Nat}{q v:By}{ov:Option Addr}{kv:Nat},Vcg.Mod NoB w1 w2->VfS E a b P D w2 lab2 U->CBy w2 lab2 6 o2 q->RdB w2 ov v->ZD1 E a b xs path=valueV E a b q v->Z3E J (.func (.func 75) #[X (Y ⟨D,0,N⟩)] #[]) #[.slice o2 q.length k2,.slice ov v.length kv] w2 (fun e w3=>(∃ch,e=V ch/\R (V ch) w3)\/e=G (W #[])/\R (G (W #[])) w3):=by
  intro r w2 lab2 o2 k2 q v ov kv M I c hv he;refine⟨75,_,#[],rfl,by kernel_rfl,(ZDt hE hl I (k:=k2) (kv:=kv) c hv).mono ?_⟩;rintro e w3⟨M3,hb⟩;have hfin:=fun e(h:ZHz (ZD1 E a b xs path) e)=>hR e w3 ⟨(M1.none_trans M).none_trans M3,h⟩;rw[he]at hfin;revert hb hfin;generalize valueV E a b q v=oe;intro hb hfin;cases oe with
  |none=>obtain rfl:=hb;exact .inr ⟨rfl,hfin _ rfl⟩
  |some er=>obtain⟨rfl,hne⟩:=hb;exact .inl ⟨_,rfl,hfin _ ⟨rfl,hne⟩⟩
 rcases hn1 with⟨p,v,h1,h2,h3,rfl,h5,h6,rfl,h8,h9⟩|⟨p,D',L,h1,h2,rfl,h4,h5,rfl,h7,h8,h9,rfl⟩|⟨g,v,h1,h2,rfl,rfl,h5,h6,h7,h8,h9,h10,h11⟩
 ·have hov:ZD1 E a b xs path=valueV E a b (path++p) v:=by unfold ZD1;rw[if_pos h1,h2,h3];rfl
  obtain⟨o1,l1,k1⟩:=s1;obtain⟨o3,l3,k3⟩:=s3;dsimp only at h5 h6 h8 h9 N1;subst h5 h8;refine⟨J4,N1.rd1 rfl,fun _=>?_,fun h=>(by cases h)⟩;rintro _ rfl;have N2:=N1.drew;have M2:=Mod.drew (S:=NoB) w1;refine⟨_,_,_,by rw[Z3];exact N2.rd1 rfl,_,_,_,by rw[Z3];exact N2.rd1 rfl,?_⟩;refine(Z4P (k:=k) (k2:=k1) (P1.rd.mod' M2) (h6.1.mod' M2) (by have:=Z7s h2;omega)).mono ?_;rintro _ w3⟨o4,k4,rfl,F4⟩;refine .inr ⟨_,_,_,rfl,by rw[Z3];exact(N2.mod' F4.mod).rd1 rfl,?_⟩;have M13:=M2.none_trans F4.mod;have st3:Stp NoS w1 lab1 w3 (ext lab1 w1.heap.size 6):=Stp.of_nob M13 6;exact fin (r:=N) M13 (I1.no st3) ⟨ZK F4,fun _ d hd=>ext_new (Nat.le_trans M2.size (F4.new d.block ⟨d,hd,rfl⟩))⟩ (h9.1.mod' M13) hov
 ·have hov:ZD1 E a b xs path=N:=by unfold ZD1;rw[if_pos h1,h2]
  rw[hov]at hR;refine⟨F,N1.rd1 rfl,fun h=>(by cases h),fun _=>⟨_,_,_,by rw[Z3];exact N1.rd1 rfl,fun h=>absurd h (by decide),fun _=>hR _ _ ⟨M1,rfl⟩⟩⟩
 ·have hov:ZD1 E a b xs path=if v=[]then N else valueV E a b path v:=by unfold ZD1;rw[if_neg (by omega),h2];rfl
  obtain⟨o3,l3,k3⟩:=s3;dsimp only at h10 h11 N1;subst h10;refine⟨F,N1.rd1 rfl,fun h=>(by cases h),fun _=>⟨_,_,_,by rw[Z3];exact N1.rd1 rfl,fun hpos=>⟨_,_,_,by rw[Z3];exact N1.rd1 rfl,?_⟩,fun hz=>?_⟩⟩
  ·rw[if_neg (fun e=>by rw[e]at hpos;exact absurd hpos (by decide))]at hov
   exact fin (r:=N) (Mod.refl w1) I1 P1 h11.1 hov
  ·rw[if_pos (JA (by omega))]at hov
   rw[hov]at hR;exact hR _ _ ⟨M1,rfl⟩
theorem ZAs{xs:List It}{bb:Bool}{s1 s2 s3:Option Addr×Nat×Nat}{o oe:Option Addr}{k ke:Nat}{path q:By}(hg:Z2p (.l xs))(hn:NvC (fun b=>lab b≠6) w xs bb s1 s2 s3)(hq:RdB w oe q)(hqk:q.length<=ke)(hpq:path.length<q.length)(hnib:Nib q) :
  K J Z0b.n #[nvV bb s1 s2 s3,.slice o path.length k,.slice oe q.length ke] w (fun e w'=>Vcg.Mod NoB w w'/\e=G (.bool (ZA9 xs (q.drop path.length)))):=by
 refine ZD fun R hR=>Z0b.vc _ _ _ _ _ _ _ _ _ _ _ _ _ _ _ _ _ _ ?_;unfold Z0b.Vc;rintro d1 w1⟨rfl,rfl⟩;have M1:=Mod.alloc (S:=NoB) w (.cells #[.bool bb,.slice s1.1 s1.2.1 s1.2.2,.slice s2.1 s2.2.1 s2.2.2,.slice s3.1 s3.2.1 s3.2.2] 86);have N1:=Blk.new w 86 #[.bool bb,.slice s1.1 s1.2.1 s1.2.2,.slice s2.1 s2.2.1 s2.2.2,.slice s3.1 s3.2.1 s3.2.2];have hn1:=hn.mod' M1;have q1:=hq.mod' M1;generalize w.alloc (.cells #[.bool bb,.slice s1.1 s1.2.1 s1.2.2,.slice s2.1 s2.2.1 s2.2.2,.slice s3.1 s3.2.1 s3.2.2] 86)=w1 at *
 refine⟨⟨by omega,by omega⟩,bb,N1.rd1 rfl,?_⟩;rw[J5]
 have hrest:RdB w1 (subO oe ke path.length 1) (q.drop path.length):=by
  have:=q1.sub (c:=ke) (lo:=path.length) (n:=q.length-path.length) hqk
  rwa[List.take_of_length_le (by rw[J1];omega)]at this
 have hrl:q.length-path.length=(q.drop path.length).length:=List.length_drop.symm;have hrk:(q.drop path.length).length<=ke-path.length:=by rw[J1];omega
 rw[hrl];rcases hn1 with⟨p,v,h1,h2,h3,rfl,h5,h6,rfl,h8,h9⟩|⟨p,D',L,h1,h2,rfl,h4,h5,rfl,h7,h8,h9,rfl⟩|⟨g,v,h1,h2,rfl,rfl,h5,h6,h7,h8,h9,h10,h11⟩
 ·have hcv:ZA9 xs (q.drop path.length)=decide (q.drop path.length=p):=by unfold ZA9;rw[if_pos h1,h2]
  rw[hcv]at hR;obtain⟨o1,l1,k1⟩:=s1;dsimp only at h5 h6 N1;subst h5;refine⟨fun _=>⟨_,_,_,by rw[Z3];exact N1.rd1 rfl,?_⟩,fun h=>(by cases h)⟩;refine(Z2q hrest h6.1).mono ?_;rintro _ w2⟨rfl,rfl⟩;exact⟨_,rfl,hR _ _ ⟨M1,rfl⟩⟩
 ·have hcv:ZA9 xs (q.drop path.length)=p.isPrefixOf (q.drop path.length):=by unfold ZA9;rw[if_pos h1,h2]
  rw[hcv]at hR;obtain⟨o1,l1,k1⟩:=s1;dsimp only at h4 h5 N1;subst h4;refine⟨fun h=>(by cases h),fun _=>get4 N1 ?_⟩;refine Z3B.mono ?_;rintro _ w2⟨rfl,M2⟩;refine⟨_,rfl,fun h=>(by cases h),fun _=>⟨_,_,_,by rw[Z3];exact(N1.mod' M2).rd1 rfl,?_⟩⟩;refine(Z2j (hrest.mod' M2) hrk (h5.1.mod' M2)).mono ?_;rintro _ w3⟨rfl,rfl⟩;exact⟨_,rfl,hR _ _ ⟨M1.none_trans M2,rfl⟩⟩
 ·refine⟨fun h=>(by cases h),fun _=>get4 N1 ?_⟩
  refine Z3B.mono ?_;rintro _ w2⟨rfl,M2⟩;refine⟨_,rfl,fun _=>?_,fun h=>absurd (of_decide_eq_false h) (by simp[h6])⟩;rintro _ rfl;have M3:=M2.step_drew;generalize w2.drew=w3 at *
  have hd:=JC hpq;obtain⟨d,hd1,hd2⟩:=(hrest.mod' M3).get (i:=0) (by rw[J1];omega);have hc:(q.drop path.length).getD 0 0=q[path.length]:=by rw[hd];rfl
  rw[hc]at hd2;have hc16:=hnib q[path.length] (List.getElem_mem _);have hcv:ZA9 xs (q.drop path.length)= !isE (xs.getD q[path.length].toNat (.s [])):=by unfold ZA9;rw[if_neg (by omega),hd]
  rw[hcv]at hR;generalize q[path.length]=c at *
  obtain⟨L,hrow,hL⟩:=h9 c.toNat hc16
  have h33:w3.cell? ⟨g,c.toNat*34+33,N⟩=Y (.bool (!isE (xs.getD c.toNat (.s [])))):=by
   rw[ZN M3 h7 (fun h=>h),<-ZJv hL,<-hrow.2 33 (by omega),Z3]
  refine⟨fun _=>⟨_,_,_,by rw[Z3];exact(N1.mod' M3).rd1 rfl,_,hd1,⟨by omega,by rw[J1];omega⟩,_,hd2,_,h5,⟨by omega,by rw[h6];omega⟩,_,by rw[Z3,Z3,J5,Nat.zero_add];exact h33,fun ht=>hR _ _ ⟨M1.none_trans M3,by rw[ht]⟩,fun hf=>⟨fun h=>absurd h (by rw[J1];omega),fun _=>hR _ _ ⟨M1.none_trans M3,by rw[hf]⟩⟩⟩,fun h=>absurd h (by rw[J1];omega)⟩
end
end Go.Proofs.YtfghidehlnfdiaaGreat
end
