/- The verification conditions of some functions, printed by a program of ours (wip/PrintVc.lean). -/
/- The verification conditions of some functions, printed by a program of ours (wip/PrintVc.lean). -/
/- Memory laws: blocks of cells, and which blocks a step changes. -/
import Derived.Test.YtfghidehlnfdiaaGreatXFun
import Derived.Test.YtfghidehlnfdiaaGreatProg
import Derived.KernelRfl
import Derived.Deep.AppendSrc
import Derived.Laws.CopyRow
import Derived.Laws.AppendOwn
import Derived.Below
set_option linter.unusedVariables false
open Array renaming replicate->D,size->JD
open Bool renaming false->J1,true->J6
open Go renaming Calls->H,Ending->C,TypeId->JC,World->V
open Go.BinOp renaming xor->J4
open Go.Builtin renaming append->J7,copy->JG
open Go.Ending renaming returned->Z
open Go.Instr renaming storeAt->A,typeAssert->J3
open Go.IntKind renaming i64->Y,u64->X,u8->J5,wrap->G
open Go.Proofs.Tryz renaming prog->J
open Go.Result renaming ok->J8
open Go.Sem renaming run->E
open Go.Value renaming iface->J9,map->JE,nilIface->M,oneCell'->JA,pointer->Q,tuple->J0
open Int renaming fdiv->JF,tdiv->W,tmod->F,toNat->U,toNat_natCast->JB
open Option renaming none->J2,some->O
section
namespace Go.Proofs.YtfghidehlnfdiaaGreat
open Go Go.Vcg
theorem ZL:Tryz.prog.follows .mixedOrders=J6:=by kernel_rfl
abbrev Z5v.n:Nat:=125
def Z5v.Vc(a:Array Value)(b:Option Addr)(c d:Nat)(w:V)(R:C->V->Prop):Prop :=
 ∀d e,ZC w 27 a d e ->
 ∃a f,E J (Instr.makeMap 67 J2) e=J8 a f /\
 ∃e:Option Nat,a=(JE e) /\
 ∀a g,ZC f 67 #[JE J2] a g ->
 Z1 g a (JE e)/\∀f,ZA g a (JE e) f ->
 ∃(e:Int->V->Prop)(g:Int->V->Nat),e 0 f /\
 (∀(f:Int)(h:Nat->Value)(h:V),e f h ->
 ((f<(c:Int) ->
 ∃i,b=O i /\
 ((0:Int)<=f/\f<(c:Int)) /\
 ∃b,ZG h (i.add (f.toNat*33)) 33 b /\
 ∀i j,ZC h 48 #[.int J5 0,.int J5 0,.int J5 0,.int J5 0,.int J5 0,.int J5 0,.int J5 0,.int J5 0,.int J5 0,.int J5 0,.int J5 0,.int J5 0,.int J5 0,.int J5 0,.int J5 0,.int J5 0,.int J5 0,.int J5 0,.int J5 0,.int J5 0,.int J5 0,.int J5 0,.int J5 0,.int J5 0,.int J5 0,.int J5 0,.int J5 0,.int J5 0,.int J5 0,.int J5 0,.int J5 0,.int J5 0,.slice J2 0 0] i j ->
 ∃k,E J (A 48 (Q (O i)) (.agg b)) j=J8 () k /\
 ∃b:Option Nat,k.cell? a=O (JE b) /\
 ∃j,ZG k i 32 j /\
 ∃l,E J (Instr.lookup 67 (JE b) (.agg j) J6) k=J8 l k /\
 ∃b j m n,l=(J0 #[.slice b j m,.bool n]) /\
 ((n=J1 ->
 ∀b,ZJ k b ->
 ∃j:Option Nat,b.cell? a=O (JE j) /\
 ∃l,ZG b i 32 l /\
 ∃m o p,b.cell? (i.add 32)=O (.slice m o p) /\
 H J 36 #[.slice m o p] b (fun b m =>
 ∃o p q,b=Z (.slice o p q) /\
 ZG m i 32 l /\
 m.cell? a=O (JE j) /\
 ∃b,E J (Instr.mapUpdate 67 (JE j) (.agg l) (.slice o p q)) m=J8 () b /\
 e (G Y (f+1)) b/\g (G Y (f+1)) b<g f h)) /\
 (n=J6 ->
 e (G Y (f+1)) k/\g (G Y (f+1)) k<g f h))) /\
 (¬f<(c:Int) ->
 ∃b,ZG h d 32 b /\
 H J 139 #[.agg b,.func (.func 140) #[] #[Q (O a)]] h (fun a b =>
 ∃c,a=Z (Q c) /\
 R (Z (Q c)) b))))
theorem Z5v.vc(a b c d w R)(h:Z5v.Vc a b c d w R):H J 125 #[(.agg a),(.slice b c d)] w R:=xs [(3,[(13,.cell (.int Y))])] [.big 32 a,.slice b c d] Tryz.func125 ZL (by kernel_rfl) h
abbrev Z4c.n:Nat:=139
def Z4c.Vc(a:Array Value)(b:Value)(w:V)(R:C->V->Prop):Prop :=
 ∀c d,ZC w 27 a c d ->
 JA b=J6 /\
 ∀a e,ZC d 225 #[M,b] a e ->
 ∀b,ZJ e b ->
 ∃d,ZG b c 32 d /\
 H J 68 #[] b (fun b e =>
 ∃f,b=Z (.agg f) /\
 ZG e c 32 d /\
 ∃b,E J (Z02 .neq 27 (.tmp 9) (.tmp 10) (.agg d) (.agg f)) e=J8 b e /\
 ∃d,b=(.bool d) /\
 ((d=J6 ->
 ∃b,ZG e c 32 b /\
 JD b=32 /\
 ∀c f,ZC e 228 (lputL (D 32 (.int J5 0)) 0 32 b) c f ->
 Z1 f a (J9 226 (Q (O c)))/\∀b,ZA f a (J9 226 (Q (O c))) b ->
 R (Z (Q (O a))) b) /\
 (d=J1 ->
 R (Z (Q (O a))) e)))
theorem Z4c.vc(a b w R)(h:Z4c.Vc a b w R):H J 139 #[(.agg a),b] w R:=xs [] [.big 32 a,.raw b] Tryz.func139 ZL (by kernel_rfl) h
abbrev Z31.n:Nat:=68
def Z31.Vc  (w:V)(R:C->V->Prop):Prop :=
 ∀a b,ZC w 27 (D 32 (.int J5 0)) a b ->
 ∀c d,ZC b 5 #[.int J5 128] c d ->
 ∀b e,ZC d 23 #[.slice (O c) 1 1] b e ->
 H J 53 #[.slice (O b) 1 1] e (fun b c =>
 ∃d,b=Z (.agg d) /\
 ∃b,E J (A 27 (Q (O a)) (.agg d)) c=J8 () b /\
 ∃c,ZG b a 32 c /\
 R (Z (.agg c)) b)
theorem Z31.vc  (w:V)(R:C->V->Prop)(h:Z31.Vc w R):H J 68 #[] w R :=
 Z1Y (R:=⟨R,J1⟩) (ann:=[]) (args:=[]) Tryz.func68 ZL (Eq.mp (by kernel_rfl:Z31.Vc w R=Z6N (pA J ⟨R,J1⟩) J [] Tryz.f68 [] w) h)
abbrev Z2C.n:Nat:=126
def Z2C.Vc(a:Addr)(b:Option Addr)(c d:Nat)(e:Option Addr)(f g:Nat)(w:V)(R:C->V->Prop):Prop :=
 (((c:Int)>64 ->
 R (Z (.int Y 140)) w) /\
 (¬(c:Int)>64 ->
 (((f:Int)=0 ->
 R (Z (.int Y 141)) w) /\
 ((f:Int)≠0 ->
 (((f:Int)>1024 ->
 R (Z (.int Y 141)) w) /\
 (¬(f:Int)>1024 ->
 ∀h,ZJ w h ->
 ∃i,h.cell? a=O i /\
 H J 43 #[.slice b c d] h (fun b c =>
 ∃d h j,b=Z (.slice d h j) /\
 c.cell? a=O i /\
 H J 36 #[.slice e f g] c (fun b c =>
 ∃e f g,b=Z (.slice e f g) /\
 c.cell? a=O i /\
 H J 141 #[Q (O a),i,.slice d h j,.slice e f g] c (fun b c =>
 ∃d e,b=Z (J0 #[d,.int Y e]) /\
 ((e=0 ->
 Z1 c a d/\∀b,ZA c a d b ->
 R (Z (.int Y e)) b) /\
 (e≠0 ->
 R (Z (.int Y e)) c)))))))))))
theorem Z2C.vc(a b c d e f g w R)(h:Z2C.Vc a b c d e f g w R):H J 126 #[(Q (O a)),(.slice b c d),(.slice e f g)] w R:=xs [] [.addr a,.slice b c d,.slice e f g] Tryz.func126 ZL (by kernel_rfl) h
abbrev Zy.n:Nat:=141
def Zy.Vc(a:Addr)(b:Value)(c:Option Addr)(d e:Nat)(f:Option Addr)(g h:Nat)(w:V)(R:C->V->Prop):Prop :=
 H J 151 #[Q (O a),b] w (fun b i =>
 ∃j k,b=Z (J0 #[j,.int Y k]) /\
 ((k≠0 ->
 R (Z (J0 #[M,.int Y k])) i) /\
 (k=0 ->
 ∃b,E J (J3 j 197 241 J6) i=J8 b i /\
 ∃k l,b=(J0 #[Q k,.bool l]) /\
 ((l=J6 ->
 ∃b,k=O b /\
 ∃m n o,i.cell? b=O (.slice m n o) /\
 H J 152 #[.slice m n o,.slice c d e] i (fun b m =>
 ∃n,b=Z (.int Y n) /\
 ∃(b:V->Prop),(∃o,k=O o /\
 ∃p q r,m.cell? o=O (.slice p q r) /\
 ((n=(q:Int) ->
 ((n=(d:Int) ->
 ∀o p,ZC m 243 #[.slice c d e,.slice f g h] o p ->
 R (Z (J0 #[J9 241 (Q (O o)),.int Y 0])) p) /\
 (n≠(d:Int) ->
 b  m))) /\
 (n≠(q:Int) ->
 b  m))) /\
 (∀  (m:Nat->Value)(m:V),b  m ->
 ∀b o,ZC m 247 #[M,M,M,M,M,M,M,M,M,M,M,M,M,M,M,M,.slice J2 0 0] b o ->
 ∀m,ZJ o m ->
 ∃o,k=O o /\
 ∃p q r,m.cell? o=O (.slice p q r) /\
 ((0:Int)<=n/\n<=(q:Int)) /\
 ∃o,k=O o /\
 ∃k s t,m.cell? (o.add 1)=O (.slice k s t) /\
 H J 153 #[Q (O b),.slice (subO p r n.toNat 1) (q-n.toNat) (r-n.toNat),.slice k s t] m (fun k m =>
 k=Z (J0 #[]) /\
 ((0:Int)<=n/\n<=(d:Int)) /\
 H J 153 #[Q (O b),.slice (subO c e n.toNat 1) (d-n.toNat) (e-n.toNat),.slice f g h] m (fun k m =>
 k=Z (J0 #[]) /\
 ((0:Int)<=n/\n<=(e:Int)) /\
 H J 154 #[.slice c n.toNat e,J9 244 (Q (O b))] m (fun b k =>
 ∃m,b=Z m /\
 R (Z (J0 #[m,.int Y 0])) k)))))) /\
 (l=J1 ->
 ∃b,E J (J3 j 197 249 J6) i=J8 b i /\
 ∃k l,b=(J0 #[Q k,.bool l]) /\
 ((l=J6 ->
 ∃b,k=O b /\
 ∃m n o,i.cell? b=O (.slice m n o) /\
 H J 152 #[.slice m n o,.slice c d e] i (fun b m =>
 ∃n,b=Z (.int Y n) /\
 ∃b,k=O b /\
 ∃o p q,m.cell? b=O (.slice o p q) /\
 ((n=(p:Int) ->
 ∀b,ZJ m b ->
 ∃o,k=O o /\
 ∃q,b.cell? (o.add 1)=O q /\
 ((0:Int)<=n/\n<=(d:Int)) /\
 H J 141 #[Q (O a),q,.slice (subO c e n.toNat 1) (d-n.toNat) (e-n.toNat),.slice f g h] b (fun b o =>
 ∃q r,b=Z (J0 #[q,.int Y r]) /\
 ((r≠0 ->
 R (Z (J0 #[M,.int Y r])) o) /\
 (r=0 ->
 ∃b,k=O b /\
 ∃r s t,o.cell? b=O (.slice r s t) /\
 JA q=J6 /\
 ∀b u,ZC o 251 #[.slice r s t,q] b u ->
 R (Z (J0 #[J9 249 (Q (O b)),.int Y 0])) u)))) /\
 (n≠(p:Int) ->
 ∀b o,ZC m 247 #[M,M,M,M,M,M,M,M,M,M,M,M,M,M,M,M,.slice J2 0 0] b o ->
 ∀m,ZJ o m ->
 ∃o,k=O o /\
 ∃p q r,m.cell? o=O (.slice p q r) /\
 ∃s,p=O s /\
 ((0:Int)<=n/\n<(q:Int)) /\
 ∃t,m.cell? (s.add n.toNat)=O (.int J5 t) /\
 ∃u,k=O u /\
 ∃v x y,m.cell? u=O (.slice v x y) /\
 ((0:Int)<=(G Y (n+1))/\(G Y (n+1))<=(x:Int)) /\
 ∃u,k=O u /\
 ∃k,m.cell? (u.add 1)=O k /\
 H J 154 #[.slice (subO v y (U (G Y (n+1))) 1) (x-(U (G Y (n+1)))) (y-(U (G Y (n+1)))),k] m (fun k m =>
 ∃u,k=Z u /\
 m.cell? (s.add n.toNat)=O (.int J5 t) /\
 m.cell? o=O (.slice p q r) /\
 ((0:Int)<=t/\t<(16:Int)) /\
 Z1 m (b.add t.toNat) u/\∀k,ZA m (b.add t.toNat) u k ->
 ((0:Int)<=n/\n<=(d:Int)) /\
 H J 153 #[Q (O b),.slice (subO c e n.toNat 1) (d-n.toNat) (e-n.toNat),.slice f g h] k (fun k m =>
 k=Z (J0 #[]) /\
 ((0:Int)<=n/\n<=(e:Int)) /\
 H J 154 #[.slice c n.toNat e,J9 244 (Q (O b))] m (fun b k =>
 ∃m,b=Z m /\
 R (Z (J0 #[m,.int Y 0])) k))))))) /\
 (l=J1 ->
 ∃b,E J (J3 j 197 244 J6) i=J8 b i /\
 ∃j k,b=(J0 #[Q j,.bool k]) /\
 ((k=J6 ->
 ∃b,j=O b /\
 ∃l,ZG i b 17 l /\
 ∀b m,ZC i 247 #[M,M,M,M,M,M,M,M,M,M,M,M,M,M,M,M,.slice J2 0 0] b m ->
 ∃n,E J (A 247 (Q (O b)) (.agg l)) m=J8 () n /\
 (((d:Int)=0 ->
 Z1 n (b.add 16) (.slice f g h)/\∀l,ZA n (b.add 16) (.slice f g h) l ->
 R (Z (J0 #[J9 244 (Q (O b)),.int Y 0])) l) /\
 ((d:Int)≠0 ->
 ∀l,ZJ n l ->
 ∃m,c=O m /\
 ((0:Int)<=0/\0<(d:Int)) /\
 ∃n,l.cell? (m.add 0)=O (.int J5 n) /\
 ∃m,j=O m /\
 ((0:Int)<=n/\n<(16:Int)) /\
 ∃j,l.cell? (m.add n.toNat)=O j /\
 1<=d /\
 H J 141 #[Q (O a),j,.slice (subO c e 1 1) (d-1) (e-1),.slice f g h] l (fun a j =>
 ∃l m,a=Z (J0 #[l,.int Y m]) /\
 ((m≠0 ->
 R (Z (J0 #[M,.int Y m])) j) /\
 (m=0 ->
 ∃a,c=O a /\
 ((0:Int)<=0/\0<(d:Int)) /\
 ∃m,j.cell? (a.add 0)=O (.int J5 m) /\
 ((0:Int)<=m/\m<(16:Int)) /\
 Z1 j (b.add m.toNat) l/\∀a,ZA j (b.add m.toNat) l a ->
 R (Z (J0 #[J9 244 (Q (O b)),.int Y 0])) a)))))) /\
 (k=J1 ->
 ∀a b,ZC i 243 #[.slice c d e,.slice f g h] a b ->
 R (Z (J0 #[J9 241 (Q (O a)),.int Y 0])) b)))))))))
theorem Zy.vc(a b c d e f g i w R)(h:Zy.Vc a b c d e f g i w R):H J 141 #[(Q (O a)),b,(.slice c d e),(.slice f g i)] w R:=xs [(1000010,[])] [.addr a,.raw b,.slice c d e,.slice f g i] Tryz.func141 ZL (by kernel_rfl) h
abbrev Z1k.n:Nat:=151
def Z1k.Vc(a:Addr)(b:Value)(w:V)(R:C->V->Prop):Prop :=
 ∃c,E J (J3 b 197 226 J6) w=J8 c w /\
 ∃d e,c=(J0 #[Q d,.bool e]) /\
 ((e=J1 ->
 R (Z (J0 #[b,.int Y 0])) w) /\
 (e=J6 ->
 ∀b,ZJ w b ->
 ∃c,b.cell? (a.add 1)=O c /\
 ∃a,d=O a /\
 ∃d,ZG b a 32 d /\
 Z3E J c #[.agg d] b (fun a b =>
 ∃c d e f,a=Z (J0 #[.slice c d e,.bool f]) /\
 ((f=J1 ->
 R (Z (J0 #[M,.int Y 142])) b) /\
 (f=J6 ->
 H J 101 #[.slice c d e] b (fun a b =>
 ∃f,a=Z (.int Y f) /\
 ((f≠0 ->
 R (Z (J0 #[M,.int Y 143])) b) /\
 (f=0 ->
 H J 121 #[.slice c d e] b (fun a b =>
 ∃c d,a=Z (J0 #[c,.int Y d]) /\
 R (Z (J0 #[c,.int Y 0])) b)))))))))
theorem Z1k.vc(a b w R)(h:Z1k.Vc a b w R):H J 151 #[(Q (O a)),b] w R:=xs [] [.addr a,.raw b] Tryz.func151 ZL (by kernel_rfl) h
abbrev Z1j.n:Nat:=127
def Z1j.Vc(a:Addr)(w:V)(R:C->V->Prop):Prop :=
 ∀b c,ZC w 27 (D 32 (.int J5 0)) b c ->
 ∃d,c.cell? a=O d /\
 ((d=M /\
 H J 68 #[] c (fun e f =>
 ∃g,e=Z (.agg g) /\
 ∃e,E J (A 27 (Q (O b)) (.agg g)) f=J8 () e /\
 ∃f,ZG e b 32 f /\
 R (Z (.agg f)) e)) \/
 (Z7R d /\
 ∃e,E J (J3 d 197 226 J6) c=J8 e c /\
 ∃d f,e=(J0 #[Q d,.bool f]) /\
 ((f=J6 ->
 ∃e,d=O e /\
 ∃d,ZG c e 32 d /\
 ∃e,E J (A 27 (Q (O b)) (.agg d)) c=J8 () e /\
 ∃d,ZG e b 32 d /\
 R (Z (.agg d)) e) /\
 (f=J1 ->
 ∃d,c.cell? a=O d /\
 H J 142 #[d] c (fun a c =>
 ∃d e f,a=Z (.slice d e f) /\
 ∀a g,ZC c 23 #[.slice d e f] a g ->
 H J 53 #[.slice (O a) 1 1] g (fun a c =>
 ∃d,a=Z (.agg d) /\
 ∃a,E J (A 27 (Q (O b)) (.agg d)) c=J8 () a /\
 ∃c,ZG a b 32 c /\
 R (Z (.agg c)) a))))))
theorem Z1j.vc(a w R)(h:Z1j.Vc a w R):H J 127 #[(Q (O a))] w R:=xs [] [.addr a] Tryz.func127 ZL (by kernel_rfl) h
abbrev Z23.n:Nat:=142
def Z23.Vc(a:Value)(w:V)(R:C->V->Prop):Prop :=
 ZA0 J a "moraine/trie.item" #[] w (fun a b =>
 ∃c d e f g h i,a=Z (.agg #[.bool c,.slice d e f,.slice g h i]) /\
 H J 143 #[.agg #[.bool c,.slice d e f,.slice g h i]] b (fun a b =>
 ∃c d e f,a=Z (J0 #[.slice c d e,.int Y f]) /\
 R (Z (.slice c d e)) b))
theorem Z23.vc(a w R)(h:Z23.Vc a w R):H J 142 #[a] w R:=xs [] [.raw a] Tryz.func142 ZL (by kernel_rfl) h
abbrev Z4f.n:Nat:=180
def Z4f.Vc(a:Option Addr)(b c:Nat)(w:V)(R:C->V->Prop):Prop :=
 ∀d e,ZC w 111 #[.bool J1,.slice J2 0 0,.slice J2 0 0] d e ->
 Z1 e d (.bool J1)/\∀f,ZA e d (.bool J1) f ->
 Z1 f (d.add 1) (.slice a b c)/\∀e,ZA f (d.add 1) (.slice a b c) e ->
 Z1 e (d.add 2) (.slice J2 0 0)/\∀a,ZA e (d.add 2) (.slice J2 0 0) a ->
 ∃b c e f g h i,a.cell? d=O (.bool b) /\
 a.cell? (d.add 1)=O (.slice c e f) /\
 a.cell? (d.add 2)=O (.slice g h i) /\
 R (Z (.agg #[.bool b,.slice c e f,.slice g h i])) a
theorem Z4f.vc(a b c w R)(h:Z4f.Vc a b c w R):H J 180 #[(.slice a b c)] w R:=xs [] [.slice a b c] Tryz.func180 ZL (by kernel_rfl) h
abbrev Z1b.n:Nat:=186
def Z1b.Vc(a:Addr)(w:V)(R:C->V->Prop):Prop :=
 ∀b c,ZC w 111 #[.bool J1,.slice J2 0 0,.slice J2 0 0] b c ->
 ∀d,ZJ c d ->
 ∃c e f,d.cell? a=O (.slice c e f) /\
 ∃g,d.cell? (a.add 1)=O g /\
 H J 183 #[.slice c e f,.bool J1] d (fun c d =>
 ∃e f h,c=Z (.slice e f h) /\
 d.cell? (a.add 1)=O g /\
 H J 180 #[.slice e f h] d (fun c d =>
 ∃e f h i j k l,c=Z (.agg #[.bool e,.slice f h i,.slice j k l]) /\
 d.cell? (a.add 1)=O g /\
 H J 185 #[g] d (fun a c =>
 ∃d g m n o p q,a=Z (.agg #[.bool d,.slice g m n,.slice o p q]) /\
 ∀a r,ZC c 111 #[.bool e,.slice f h i,.slice j k l,.bool d,.slice g m n,.slice o p q] a r ->
 H J 182 #[.slice (O a) 2 2] r (fun a c =>
 ∃d e f g h i j,a=Z (.agg #[.bool d,.slice e f g,.slice h i j]) /\
 Z1 c b (.bool d)/\∀a,ZA c b (.bool d) a ->
 Z1 a (b.add 1) (.slice e f g)/\∀c,ZA a (b.add 1) (.slice e f g) c ->
 Z1 c (b.add 2) (.slice h i j)/\∀a,ZA c (b.add 2) (.slice h i j) a ->
 ∃c d e f g h i,a.cell? b=O (.bool c) /\
 a.cell? (b.add 1)=O (.slice d e f) /\
 a.cell? (b.add 2)=O (.slice g h i) /\
 R (Z (.agg #[.bool c,.slice d e f,.slice g h i])) a))))
theorem Z1b.vc(a w R)(h:Z1b.Vc a w R):H J 186 #[(Q (O a))] w R:=xs [] [.addr a] Tryz.func186 ZL (by kernel_rfl) h
abbrev Z4e.n:Nat:=182
def Z4e.Vc(a:Option Addr)(b c:Nat)(w:V)(R:C->V->Prop):Prop :=
 ∀d e,ZC w 111 #[.bool J1,.slice J2 0 0,.slice J2 0 0] d e ->
 Z1 e d (.bool J6)/\∀f,ZA e d (.bool J6) f ->
 Z1 f (d.add 1) (.slice J2 0 0)/\∀e,ZA f (d.add 1) (.slice J2 0 0) e ->
 Z1 e (d.add 2) (.slice a b c)/\∀f,ZA e (d.add 2) (.slice a b c) f ->
 ∃a b c e g h i,f.cell? d=O (.bool a) /\
 f.cell? (d.add 1)=O (.slice b c e) /\
 f.cell? (d.add 2)=O (.slice g h i) /\
 R (Z (.agg #[.bool a,.slice b c e,.slice g h i])) f
theorem Z4e.vc(a b c w R)(h:Z4e.Vc a b c w R):H J 182 #[(.slice a b c)] w R:=xs [] [.slice a b c] Tryz.func182 ZL (by kernel_rfl) h
abbrev Z33.n:Nat:=183
def Z33.Vc(a:Option Addr)(b c:Nat)(d:Bool)(w:V)(R:C->V->Prop):Prop :=
 H J 120 #[.slice a b c,.bool d] w (fun a b =>
 ∃c d e f,a=Z (J0 #[.slice c d e,.int Y f]) /\
 R (Z (.slice c d e)) b)
theorem Z33.vc(a b c d w R)(h:Z33.Vc a b c d w R):H J 183 #[(.slice a b c),(.bool d)] w R:=xs [] [.slice a b c,.bool (.var d)] Tryz.func183 ZL (by kernel_rfl) h
abbrev Z1l.n:Nat:=185
def Z1l.Vc(a:Value)(w:V)(R:C->V->Prop):Prop :=
 ∀b c,ZC w 111 #[.bool J1,.slice J2 0 0,.slice J2 0 0] b c ->
 ((a=M /\
 Z1 c b (.bool J1)/\∀d,ZA c b (.bool J1) d ->
 Z1 d (b.add 1) (.slice J2 0 0)/\∀e,ZA d (b.add 1) (.slice J2 0 0) e ->
 Z1 e (b.add 2) (.slice J2 0 0)/\∀d,ZA e (b.add 2) (.slice J2 0 0) d ->
 ∃e f g h i j k,d.cell? b=O (.bool e) /\
 d.cell? (b.add 1)=O (.slice f g h) /\
 d.cell? (b.add 2)=O (.slice i j k) /\
 R (Z (.agg #[.bool e,.slice f g h,.slice i j k])) d) \/
 (Z7R a /\
 ∃d,E J (J3 a 197 226 J6) c=J8 d c /\
 ∃e f,d=(J0 #[Q e,.bool f]) /\
 ((f=J6 ->
 H J 179 #[Q e] c (fun d e =>
 ∃g h i j k l m,d=Z (.agg #[.bool g,.slice h i j,.slice k l m]) /\
 Z1 e b (.bool g)/\∀d,ZA e b (.bool g) d ->
 Z1 d (b.add 1) (.slice h i j)/\∀e,ZA d (b.add 1) (.slice h i j) e ->
 Z1 e (b.add 2) (.slice k l m)/\∀d,ZA e (b.add 2) (.slice k l m) d ->
 ∃e g h i j k l,d.cell? b=O (.bool e) /\
 d.cell? (b.add 1)=O (.slice g h i) /\
 d.cell? (b.add 2)=O (.slice j k l) /\
 R (Z (.agg #[.bool e,.slice g h i,.slice j k l])) d)) /\
 (f=J1 ->
 H J 142 #[a] c (fun c d =>
 ∃e f g,c=Z (.slice e f g) /\
 (((f:Int)>=32 ->
 ∀c h,ZC d 23 #[.slice e f g] c h ->
 H J 53 #[.slice (O c) 1 1] h (fun c e =>
 ∃g,c=Z (.agg g) /\
 ∀c h,ZC e 27 (D 32 (.int J5 0)) c h ->
 ∃e,E J (A 27 (Q (O c)) (.agg g)) h=J8 () e /\
 H J 180 #[.slice (O c) 32 32] e (fun c e =>
 ∃g h i j k l m,c=Z (.agg #[.bool g,.slice h i j,.slice k l m]) /\
 Z1 e b (.bool g)/\∀c,ZA e b (.bool g) c ->
 Z1 c (b.add 1) (.slice h i j)/\∀e,ZA c (b.add 1) (.slice h i j) e ->
 Z1 e (b.add 2) (.slice k l m)/\∀c,ZA e (b.add 2) (.slice k l m) c ->
 ∃e g h i j k l,c.cell? b=O (.bool e) /\
 c.cell? (b.add 1)=O (.slice g h i) /\
 c.cell? (b.add 2)=O (.slice j k l) /\
 R (Z (.agg #[.bool e,.slice g h i,.slice j k l])) c))) /\
 (¬(f:Int)>=32 ->
 ZA0 J a "moraine/trie.item" #[] d (fun a c =>
 ∃d e f g h i j,a=Z (.agg #[.bool d,.slice e f g,.slice h i j]) /\
 Z1 c b (.bool d)/\∀a,ZA c b (.bool d) a ->
 Z1 a (b.add 1) (.slice e f g)/\∀c,ZA a (b.add 1) (.slice e f g) c ->
 Z1 c (b.add 2) (.slice h i j)/\∀a,ZA c (b.add 2) (.slice h i j) a ->
 ∃c d e f g h i,a.cell? b=O (.bool c) /\
 a.cell? (b.add 1)=O (.slice d e f) /\
 a.cell? (b.add 2)=O (.slice g h i) /\
 R (Z (.agg #[.bool c,.slice d e f,.slice g h i])) a))))))))
theorem Z1l.vc(a w R)(h:Z1l.Vc a w R):H J 185 #[a] w R:=xs [] [.raw a] Tryz.func185 ZL (by kernel_rfl) h
abbrev Z0e.n:Nat:=184
def Z0e.Vc(a:Addr)(w:V)(R:C->V->Prop):Prop :=
 ∀b c,ZC w 111 #[.bool J1,.slice J2 0 0,.slice J2 0 0] b c ->
 ∃d,ZG c a 16 d /\
 ∃(e:Option Addr->Nat->Nat->Int->V->Prop)(f:Option Addr->Nat->Nat->Int->V->Nat),e J2 0 0 0 c /\
 (∀(c:Option Addr)(g:Nat)(h:Nat)(i:Int)(j:Nat->Value)(j:V),e c g h i j ->
 ((i<16 ->
 ∃k,E J (Instr.index 245 (.agg d) (.int Y i)) j=J8 k j /\
 ∃d,k=d /\
 H J 185 #[d] j (fun d k =>
 ∃l m n o p q r,d=Z (.agg #[.bool l,.slice m n o,.slice p q r]) /\
 ∀d s,ZC k 111 #[.bool l,.slice m n o,.slice p q r] d s ->
 ∃k l,E J (builtinV J7 #[109,109] 109 #[.slice c g h,.slice (O d) 1 1]) s=J8 k l /\
 ∃d m n,k=(.slice d m n) /\
 e d m n (G Y (i+1)) l/\f d m n (G Y (i+1)) l<f c g h i j)) /\
 (¬i<16 ->
 ∃d e f,j.cell? (a.add 16)=O (.slice d e f) /\
 H J 180 #[.slice d e f] j (fun a d =>
 ∃e f i j k l m,a=Z (.agg #[.bool e,.slice f i j,.slice k l m]) /\
 ∀a n,ZC d 111 #[.bool e,.slice f i j,.slice k l m] a n ->
 ∃d e,E J (builtinV J7 #[109,109] 109 #[.slice c g h,.slice (O a) 1 1]) n=J8 d e /\
 ∃a c f,d=(.slice a c f) /\
 H J 182 #[.slice a c f] e (fun a c =>
 ∃d e f g h i j,a=Z (.agg #[.bool d,.slice e f g,.slice h i j]) /\
 Z1 c b (.bool d)/\∀a,ZA c b (.bool d) a ->
 Z1 a (b.add 1) (.slice e f g)/\∀c,ZA a (b.add 1) (.slice e f g) c ->
 Z1 c (b.add 2) (.slice h i j)/\∀a,ZA c (b.add 2) (.slice h i j) a ->
 ∃c d e f g h i,a.cell? b=O (.bool c) /\
 a.cell? (b.add 1)=O (.slice d e f) /\
 a.cell? (b.add 2)=O (.slice g h i) /\
 R (Z (.agg #[.bool c,.slice d e f,.slice g h i])) a)))))
theorem Z0e.vc(a w R)(h:Z0e.Vc a w R):H J 184 #[(Q (O a))] w R:=xs [(3,[(3,.cell (.slice)),(10,.cell (.int Y))])] [.addr a] Tryz.func184 ZL (by kernel_rfl) h
abbrev Z1H.n:Nat:=181
def Z1H.Vc(a:Addr)(w:V)(R:C->V->Prop):Prop :=
 ∀b c,ZC w 111 #[.bool J1,.slice J2 0 0,.slice J2 0 0] b c ->
 ∀d,ZJ c d ->
 ∃c e f,d.cell? a=O (.slice c e f) /\
 ∃g h i,d.cell? (a.add 1)=O (.slice g h i) /\
 H J 183 #[.slice c e f,.bool J6] d (fun c d =>
 ∃e f j,c=Z (.slice e f j) /\
 d.cell? (a.add 1)=O (.slice g h i) /\
 H J 180 #[.slice e f j] d (fun c d =>
 ∃e f j k l m n,c=Z (.agg #[.bool e,.slice f j k,.slice l m n]) /\
 d.cell? (a.add 1)=O (.slice g h i) /\
 H J 180 #[.slice g h i] d (fun a c =>
 ∃d g h i o p q,a=Z (.agg #[.bool d,.slice g h i,.slice o p q]) /\
 ∀a r,ZC c 111 #[.bool e,.slice f j k,.slice l m n,.bool d,.slice g h i,.slice o p q] a r ->
 H J 182 #[.slice (O a) 2 2] r (fun a c =>
 ∃d e f g h i j,a=Z (.agg #[.bool d,.slice e f g,.slice h i j]) /\
 Z1 c b (.bool d)/\∀a,ZA c b (.bool d) a ->
 Z1 a (b.add 1) (.slice e f g)/\∀c,ZA a (b.add 1) (.slice e f g) c ->
 Z1 c (b.add 2) (.slice h i j)/\∀a,ZA c (b.add 2) (.slice h i j) a ->
 ∃c d e f g h i,a.cell? b=O (.bool c) /\
 a.cell? (b.add 1)=O (.slice d e f) /\
 a.cell? (b.add 2)=O (.slice g h i) /\
 R (Z (.agg #[.bool c,.slice d e f,.slice g h i])) a))))
theorem Z1H.vc(a w R)(h:Z1H.Vc a w R):H J 181 #[(Q (O a))] w R:=xs [] [.addr a] Tryz.func181 ZL (by kernel_rfl) h
abbrev Z4d.n:Nat:=120
def Z4d.Vc(a:Option Addr)(b c:Nat)(d:Bool)(w:V)(R:C->V->Prop):Prop :=
 (((b:Int)>128 ->
 R (Z (J0 #[.slice J2 0 0,.int Y 140])) w) /\
 (¬(b:Int)>128 ->
 H J 134 #[.slice a b c] w (fun e f =>
 ∃g,e=Z (.int J5 g) /\
 ((g>=16 ->
 R (Z (J0 #[.slice J2 0 0,.int Y 140])) f) /\
 (¬g>=16 ->
 ∃(e:Int->V->Prop),((d=J6 ->
 e 2 f) /\
 (d=J1 ->
 e 0 f)) /\
 (∀(d:Int)(f:Nat->Value)(f:V),e d f ->
 ∀e g,ZC f 5 #[.int J5 d,.int J5 0] e g ->
 ∃(f:Option Addr->Nat->Nat->V->Prop),(((F (b:Int) 2)=1 ->
 ∀h i,ZC g 5 #[.int J5 (G J5 (d+1))] h i ->
 f (O h) 1 1 i) /\
 ((F (b:Int) 2)≠1 ->
 f (O e) 2 2 g)) /\
 (∀(d:Option Addr)(e:Nat)(g:Nat)(h:Nat->Value)(h:V),f d e g h ->
 ∃f i,E J (builtinV J7 #[23,23] 23 #[.slice d e g,.slice a b c]) h=J8 f i /\
 ∃a b c,f=(.slice a b c) /\
 ∃(c:Option Addr->Nat->Nat->Int->V->Prop)(d:Option Addr->Nat->Nat->Int->V->Nat),c J2 0 0 0 i /\
 (∀(e:Option Addr)(f:Nat)(g:Nat)(h:Int)(i:Nat->Value)(i:V),c e f g h i ->
 ((h<(b:Int) ->
 ∀j,ZJ i j ->
 ∃k,a=O k /\
 ((0:Int)<=h/\h<(b:Int)) /\
 ∃l,j.cell? (k.add h.toNat)=O (.int J5 l) /\
 ∃k,a=O k /\
 ((0:Int)<=(G Y (h+1))/\(G Y (h+1))<(b:Int)) /\
 ∃a,j.cell? (k.add (U (G Y (h+1))))=O (.int J5 a) /\
 ∀k m,ZC j 5 #[.int J5 (bitsI .or J5 (G J5 (l*16)) a)] k m ->
 ∃a j,E J (builtinV J7 #[23,23] 23 #[.slice e f g,.slice (O k) 1 1]) m=J8 a j /\
 ∃k l m,a=(.slice k l m) /\
 c k l m (G Y (h+2)) j/\d k l m (G Y (h+2)) j<d e f g h i) /\
 (¬h<(b:Int) ->
 R (Z (J0 #[.slice e f g,.int Y 0])) i))))))))))
theorem Z4d.vc(a b c d w R)(h:Z4d.Vc a b c d w R):H J 120 #[(.slice a b c),(.bool d)] w R:=xs [(1000006,[(6,.cell (.int J5))]),(1000009,[(7,.cell (.slice))]),(12,[(8,.cell (.slice)),(9,.cell (.int Y))])] [.slice a b c,.bool (.var d)] Tryz.func120 ZL (by kernel_rfl) h
abbrev Z2g.n:Nat:=43
def Z2g.Vc(a:Option Addr)(b c:Nat)(w:V)(R:C->V->Prop):Prop :=
 ∃(c:Option Addr->Nat->Nat->Int->V->Prop)(d:Option Addr->Nat->Nat->Int->V->Nat),c J2 0 0 0 w /\
 (∀(e:Option Addr)(f:Nat)(g:Nat)(h:Int)(i:Nat->Value)(i:V),c e f g h i ->
 ((h<(b:Int) ->
 ∃j,a=O j /\
 ((0:Int)<=h/\h<(b:Int)) /\
 ∃a,i.cell? (j.add h.toNat)=O (.int J5 a) /\
 ∀j k,ZC i 5 #[.int J5 (JF a 16),.int J5 (bitsI .and J5 a 15)] j k ->
 ∃a l,E J (builtinV J7 #[23,23] 23 #[.slice e f g,.slice (O j) 2 2]) k=J8 a l /\
 ∃j k m,a=(.slice j k m) /\
 c j k m (G Y (h+1)) l/\d j k m (G Y (h+1)) l<d e f g h i) /\
 (¬h<(b:Int) ->
 R (Z (.slice e f g)) i)))
theorem Z2g.vc(a b c w R)(h:Z2g.Vc a b c w R):H J 43 #[(.slice a b c)] w R:=xs [(3,[(3,.cell (.slice)),(8,.cell (.int Y))])] [.slice a b c] Tryz.func43 ZL (by kernel_rfl) h
abbrev Z3j.n:Nat:=134
def Z3j.Vc(a:Option Addr)(b c:Nat)(w:V)(R:C->V->Prop):Prop :=
 ∃(c:Int->Int->V->Prop)(d:Int->Int->V->Nat),c 0 0 w /\
 (∀(e:Int)(f:Int)(g:Nat->Value)(g:V),c e f g ->
 ((f<(b:Int) ->
 ∃h,a=O h /\
 ((0:Int)<=f/\f<(b:Int)) /\
 ∃a,g.cell? (h.add f.toNat)=O (.int J5 a) /\
 c (max e a) (G Y (f+1)) g/\d (max e a) (G Y (f+1)) g<d e f g) /\
 (¬f<(b:Int) ->
 R (Z (.int J5 e)) g)))
theorem Z3j.vc(a b c w R)(h:Z3j.Vc a b c w R):H J 134 #[(.slice a b c)] w R:=xs [(3,[(3,.cell (.int J5)),(8,.cell (.int Y))])] [.slice a b c] Tryz.func134 ZL (by kernel_rfl) h
abbrev Z35.n:Nat:=152
def Z35.Vc(a:Option Addr)(b c:Nat)(c:Option Addr)(d e:Nat)(w:V)(R:C->V->Prop):Prop :=
 ∃(e:Int->V->Prop)(f:Int->V->Nat),e 0 w /\
 (∀(g:Int)(h:Nat->Value)(h:V),e g h ->
 ∀i,ZJ h i ->
 ((g<(b:Int) ->
 ((g<(d:Int) ->
 ∃j,a=O j /\
 ((0:Int)<=g/\g<(b:Int)) /\
 ∃a,i.cell? (j.add g.toNat)=O (.int J5 a) /\
 ∃j,c=O j /\
 ((0:Int)<=g/\g<(d:Int)) /\
 ∃c,i.cell? (j.add g.toNat)=O (.int J5 c) /\
 ((a=c ->
 e (G Y (g+1)) i/\f (G Y (g+1)) i<f g h) /\
 (a≠c ->
 R (Z (.int Y g)) i))) /\
 (¬g<(d:Int) ->
 R (Z (.int Y g)) i))) /\
 (¬g<(b:Int) ->
 R (Z (.int Y g)) i)))
theorem Z35.vc(a b c d e f w R)(h:Z35.Vc a b c d e f w R):H J 152 #[(.slice a b c),(.slice d e f)] w R:=xs [(2,[(5,.cell (.int Y))])] [.slice a b c,.slice d e f] Tryz.func152 ZL (by kernel_rfl) h
abbrev Z0v.n:Nat:=153
def Z0v.Vc(a:Addr)(b:Option Addr)(c d:Nat)(e:Option Addr)(f g:Nat)(w:V)(R:C->V->Prop):Prop :=
 (((c:Int)=0 ->
 Z1 w (a.add 16) (.slice e f g)/\∀h,ZA w (a.add 16) (.slice e f g) h ->
 R (Z (J0 #[])) h) /\
 ((c:Int)≠0 ->
 ∀h,ZJ w h ->
 ∃i,b=O i /\
 ((0:Int)<=0/\0<(c:Int)) /\
 ∃j,h.cell? (i.add 0)=O (.int J5 j) /\
 1<=c /\
 ∀k l,ZC h 243 #[.slice (subO b d 1 1) (c-1) (d-1),.slice e f g] k l ->
 l.cell? (i.add 0)=O (.int J5 j) /\
 ((0:Int)<=j/\j<(16:Int)) /\
 Z1 l (a.add j.toNat) (J9 241 (Q (O k)))/\∀b,ZA l (a.add j.toNat) (J9 241 (Q (O k))) b ->
 R (Z (J0 #[])) b))
theorem Z0v.vc(a b c d e f g w R)(h:Z0v.Vc a b c d e f g w R):H J 153 #[(Q (O a)),(.slice b c d),(.slice e f g)] w R:=xs [] [.addr a,.slice b c d,.slice e f g] Tryz.func153 ZL (by kernel_rfl) h
abbrev Z34.n:Nat:=154
def Z34.Vc(a:Option Addr)(b c:Nat)(d:Value)(w:V)(R:C->V->Prop):Prop :=
 (((b:Int)=0 ->
 R (Z d) w) /\
 ((b:Int)≠0 ->
 ∃e,E J (J3 d 197 241 J6) w=J8 e w /\
 ∃f g,e=(J0 #[Q f,.bool g]) /\
 ((g=J6 ->
 ∀e,ZJ w e ->
 ∃h,f=O h /\
 ∃i j k,e.cell? h=O (.slice i j k) /\
 ∃l,f=O l /\
 ∃f m n,e.cell? (l.add 1)=O (.slice f m n) /\
 H J 36 #[.slice a b c] e (fun e o =>
 ∃p q r,e=Z (.slice p q r) /\
 o.cell? (l.add 1)=O (.slice f m n) /\
 o.cell? h=O (.slice i j k) /\
 ∃e h,E J (builtinV J7 #[23,23] 23 #[.slice p q r,.slice i j k]) o=J8 e h /\
 ∃i j k,e=(.slice i j k) /\
 h.cell? (l.add 1)=O (.slice f m n) /\
 ∀e l,ZC h 243 #[.slice i j k,.slice f m n] e l ->
 R (Z (J9 241 (Q (O e)))) l)) /\
 (g=J1 ->
 ∃e,E J (J3 d 197 249 J6) w=J8 e w /\
 ∃f g,e=(J0 #[Q f,.bool g]) /\
 ((g=J6 ->
 ∀e,ZJ w e ->
 ∃h,f=O h /\
 ∃i j k,e.cell? h=O (.slice i j k) /\
 ∃l,f=O l /\
 ∃f,e.cell? (l.add 1)=O f /\
 H J 36 #[.slice a b c] e (fun e m =>
 ∃n o p,e=Z (.slice n o p) /\
 m.cell? (l.add 1)=O f /\
 m.cell? h=O (.slice i j k) /\
 ∃e h,E J (builtinV J7 #[23,23] 23 #[.slice n o p,.slice i j k]) m=J8 e h /\
 ∃i j k,e=(.slice i j k) /\
 h.cell? (l.add 1)=O f /\
 JA f=J6 /\
 ∀e l,ZC h 251 #[.slice i j k,f] e l ->
 R (Z (J9 249 (Q (O e)))) l)) /\
 (g=J1 ->
 JA d=J6 /\
 ∀e f,ZC w 251 #[.slice a b c,d] e f ->
 R (Z (J9 249 (Q (O e)))) f))))))
theorem Z34.vc(a b c d w R)(h:Z34.Vc a b c d w R):H J 154 #[(.slice a b c),d] w R:=xs [] [.slice a b c,.raw d] Tryz.func154 ZL (by kernel_rfl) h
abbrev Z2r.n:Nat:=36
def Z2r.Vc(a:Option Addr)(b c:Nat)(w:V)(R:C->V->Prop):Prop :=
 ((a=J2 ->
 R (Z (.slice J2 0 0)) w) /\
 (a≠J2 ->
 ∀d e,ZC w 5 #[] d e ->
 ∃f g,E J (builtinV J7 #[23,23] 23 #[.slice (O d) 0 0,.slice a b c]) e=J8 f g /\
 ∃a b c,f=(.slice a b c) /\
 R (Z (.slice a b c)) g))
theorem Z2r.vc(a b c w R)(h:Z2r.Vc a b c w R):H J 36 #[(.slice a b c)] w R:=xs [] [.slice a b c] Tryz.func36 ZL (by kernel_rfl) h
abbrev Z2s.n:Nat:=82
def Z2s.Vc(a:Option Addr)(b c:Nat)(d:Option Addr)(e f:Nat)(w:V)(R:C->V->Prop):Prop :=
 ∃g,E J (convert 23 9 (.slice a b c)) w=J8 g w /\
 ∃a,g=(.string a) /\
 ∃b,E J (convert 23 9 (.slice d e f)) w=J8 b w /\
 ∃c,b=(.string c) /\
 R (Z (.bool (Z8S .eql a c))) w
theorem Z2s.vc(a b c d e f w R)(h:Z2s.Vc a b c d e f w R):H J 82 #[(.slice a b c),(.slice d e f)] w R:=xs [] [.slice a b c,.slice d e f] Tryz.func82 ZL (by kernel_rfl) h
abbrev Z1K.n:Nat:=84
def Z1K.Vc(a:Option Addr)(b c:Nat)(d:Option Addr)(e f:Nat)(w:V)(R:C->V->Prop):Prop :=
 H J 108 #[.slice a b c,.slice d e f] w (fun d f =>
 ∃g,d=Z (.bool g) /\
 ((g=J1 ->
 R (Z (J0 #[.slice a b c,.bool J1])) f) /\
 (g=J6 ->
 ((0:Int)<=(e:Int)/\(e:Int)<=(b:Int)) /\
 R (Z (J0 #[.slice (subO a c (U (e:Int)) 1) (b-(U (e:Int))) (c-(U (e:Int))),.bool J6])) f)))
theorem Z1K.vc(a b c d e f w R)(h:Z1K.Vc a b c d e f w R):H J 84 #[(.slice a b c),(.slice d e f)] w R:=xs [] [.slice a b c,.slice d e f] Tryz.func84 ZL (by kernel_rfl) h
abbrev Z1L.n:Nat:=108
def Z1L.Vc(a:Option Addr)(b c:Nat)(d:Option Addr)(e f:Nat)(w:V)(R:C->V->Prop):Prop :=
 (((b:Int)>=(e:Int) ->
 ((0:Int)<=(e:Int)/\(e:Int)<=(c:Int)) /\
 H J 82 #[.slice a (U (e:Int)) c,.slice d e f] w (fun a c =>
 ∃d,a=Z (.bool d) /\
 R (Z (.bool d)) c)) /\
 (¬(b:Int)>=(e:Int) ->
 R (Z (.bool J1)) w))
theorem Z1L.vc(a b c d e f w R)(h:Z1L.Vc a b c d e f w R):H J 108 #[(.slice a b c),(.slice d e f)] w R:=xs [] [.slice a b c,.slice d e f] Tryz.func108 ZL (by kernel_rfl) h
abbrev Z3g.n:Nat:=143
def Z3g.Vc(a:Bool)(b:Option Addr)(c d:Nat)(e:Option Addr)(f g:Nat)(w:V)(R:C->V->Prop):Prop :=
 ∀h i,ZC w 111 #[.bool a,.slice b c d,.slice e f g] h i ->
 ∀a b,ZC i 217 #[.int Y 0] a b ->
 ∃c d e f g i j,b.cell? h=O (.bool c) /\
 b.cell? (h.add 1)=O (.slice d e f) /\
 b.cell? (h.add 2)=O (.slice g i j) /\
 H J 155 #[Q (O a),.agg #[.bool c,.slice d e f,.slice g i j],.int Y 1] b (fun a b =>
 ∃c d,a=Z (J0 #[.int Y c,.int Y d]) /\
 ((d≠0 ->
 R (Z (J0 #[.slice J2 0 0,.int Y d])) b) /\
 (d=0 ->
 ((c>65536 ->
 R (Z (J0 #[.slice J2 0 0,.int Y 44])) b) /\
 (¬c>65536 ->
 ∃a c d e f g i,b.cell? h=O (.bool a) /\
 b.cell? (h.add 1)=O (.slice c d e) /\
 b.cell? (h.add 2)=O (.slice f g i) /\
 H J 156 #[.agg #[.bool a,.slice c d e,.slice f g i]] b (fun a b =>
 ∃c d e,a=Z (.slice c d e) /\
 R (Z (J0 #[.slice c d e,.int Y 0])) b))))))
theorem Z3g.vc(a b c d e f g w R)(h:Z3g.Vc a b c d e f g w R):H J 143 #[(.agg #[(.bool a),(.slice b c d),(.slice e f g)])] w R:=xs [] [.agg [.bool (.var a),.slice b c d,.slice e f g]] Tryz.func143 ZL (by kernel_rfl) h
abbrev Z08.n:Nat:=155
def Z08.Vc(a:Addr)(b:Bool)(c:Option Addr)(d e:Nat)(f:Option Addr)(g h:Nat)(i:Int)(w:V)(R:C->V->Prop):Prop :=
 ∀j k,ZC w 111 #[.bool b,.slice c d e,.slice f g h] j k ->
 H J 148 #[Q (O a),.int Y i] k (fun b c =>
 ∃d,b=Z (.int Y d) /\
 ((d≠0 ->
 R (Z (J0 #[.int Y 0,.int Y d])) c) /\
 (d=0 ->
 ∃(b:V->Prop),(∃(d:Bool->V->Prop),(∃e,c.cell? j=O (.bool e) /\
 ((e=J6 ->
 ∃f g h,c.cell? (j.add 1)=O (.slice f g h) /\
 (((g:Int)>0 ->
 d J6 c) /\
 (¬(g:Int)>0 ->
 ∃f,c.cell? j=O (.bool f) /\
 ((f=J1 ->
 ∃g h k,c.cell? (j.add 2)=O (.slice g h k) /\
 d (decide ((h:Int)>0)) c) /\
 (f=J6 ->
 d J1 c))))) /\
 (e=J1 ->
 ∃e,c.cell? j=O (.bool e) /\
 ((e=J1 ->
 ∃f g h,c.cell? (j.add 2)=O (.slice f g h) /\
 d (decide ((g:Int)>0)) c) /\
 (e=J6 ->
 d J1 c))))) /\
 (∀(c:Bool)(e:Nat->Value)(e:V),d c e ->
 ((c=J6 ->
 R (Z (J0 #[.int Y 0,.int Y 40])) e) /\
 (c=J1 ->
 ∃c d f,e.cell? (j.add 1)=O (.slice c d f) /\
 H J 150 #[.slice c d f] e (fun c d =>
 ∃e,c=Z (.bool e) /\
 ((e=J6 ->
 R (Z (J0 #[.int Y 1,.int Y 0])) d) /\
 (e=J1 ->
 b  d))))))) /\
 (∀  (c:Nat->Value)(c:V),b  c ->
 ∃b d e,c.cell? (j.add 1)=O (.slice b d e) /\
 ∃b e f,c.cell? (j.add 2)=O (.slice b e f) /\
 ∃(f:Int->Int->V->Prop)(g:Int->Int->V->Nat),f (d:Int) 0 c /\
 (∀(c:Int)(d:Int)(h:Nat->Value)(h:V),f c d h ->
 ((d<(e:Int) ->
 ∃j,b=O j /\
 ((0:Int)<=d/\d<(e:Int)) /\
 ∃b k l m n o p,h.cell? (j.add (d.toNat*3))=O (.bool b) /\
 h.cell? ((j.add (d.toNat*3)).add 1)=O (.slice k l m) /\
 h.cell? ((j.add (d.toNat*3)).add 2)=O (.slice n o p) /\
 ∀j q,ZC h 111 #[.bool J1,.slice J2 0 0,.slice J2 0 0] j q ->
 Z1 q j (.bool b)/\∀r,ZA q j (.bool b) r ->
 Z1 r (j.add 1) (.slice k l m)/\∀b,ZA r (j.add 1) (.slice k l m) b ->
 Z1 b (j.add 2) (.slice n o p)/\∀k,ZA b (j.add 2) (.slice n o p) k ->
 ∃b l m n o p q,k.cell? j=O (.bool b) /\
 k.cell? (j.add 1)=O (.slice l m n) /\
 k.cell? (j.add 2)=O (.slice o p q) /\
 H J 155 #[Q (O a),.agg #[.bool b,.slice l m n,.slice o p q],.int Y (G Y (i+1))] k (fun a b =>
 ∃i j,a=Z (J0 #[.int Y i,.int Y j]) /\
 ((j≠0 ->
 R (Z (J0 #[.int Y 0,.int Y j])) b) /\
 (j=0 ->
 f (G Y (c+i)) (G Y (d+1)) b/\g (G Y (c+i)) (G Y (d+1)) b<g c d h)))) /\
 (¬d<(e:Int) ->
 H J 160 #[.int Y c,.int Y 0] h (fun a b =>
 ∃d e f,a=Z (.slice d e f) /\
 R (Z (J0 #[.int Y (G Y (c+(e:Int))),.int Y 0])) b))))))))
theorem Z08.vc(a b c d e f g i j w R)(h:Z08.Vc a b c d e f g i j w R):H J 155 #[(Q (O a)),(.agg #[(.bool b),(.slice c d e),(.slice f g i)]),(.int Y j)] w R:=xs [(1000009,[]),(1000006,[(20,.cell (.bool))]),(11,[(9,.cell (.int Y)),(48,.cell (.int Y))])] [.addr a,.agg [.bool (.var b),.slice c d e,.slice f g i],.int Y j] Tryz.func155 ZL (by kernel_rfl) h
abbrev Z51.n:Nat:=156
def Z51.Vc(a:Bool)(b:Option Addr)(c d:Nat)(e:Option Addr)(f g:Nat)(w:V)(R:C->V->Prop):Prop :=
 ∀h i,ZC w 111 #[.bool a,.slice b c d,.slice e f g] h i ->
 ∃a,i.cell? h=O (.bool a) /\
 ((a=J1 ->
 ∃b c d,i.cell? (h.add 1)=O (.slice b c d) /\
 H J 150 #[.slice b c d] i (fun b c =>
 ∃d,b=Z (.bool d) /\
 ((d=J6 ->
 ∃b e f,c.cell? (h.add 1)=O (.slice b e f) /\
 H J 36 #[.slice b e f] c (fun b e =>
 ∃f g j,b=Z (.slice f g j) /\
 R (Z (.slice f g j)) e)) /\
 (d=J1 ->
 ∀b,ZJ c b ->
 ∃c d e,b.cell? (h.add 1)=O (.slice c d e) /\
 ∃c e f,b.cell? (h.add 1)=O (.slice c e f) /\
 H J 160 #[.int Y (d:Int),.int Y 128] b (fun b d =>
 ∃g j k,b=Z (.slice g j k) /\
 d.cell? (h.add 1)=O (.slice c e f) /\
 ∃b l,E J (builtinV J7 #[23,23] 23 #[.slice g j k,.slice c e f]) d=J8 b l /\
 ∃c d e,b=(.slice c d e) /\
 R (Z (.slice c d e)) l))))) /\
 (a=J6 ->
 ∃a b c,i.cell? (h.add 2)=O (.slice a b c) /\
 ∃(c:Option Addr->Nat->Nat->Int->V->Prop)(d:Option Addr->Nat->Nat->Int->V->Nat),c J2 0 0 0 i /\
 (∀(e:Option Addr)(f:Nat)(g:Nat)(h:Int)(i:Nat->Value)(i:V),c e f g h i ->
 ((h<(b:Int) ->
 ∃j,a=O j /\
 ((0:Int)<=h/\h<(b:Int)) /\
 ∃a k l m n o p,i.cell? (j.add (h.toNat*3))=O (.bool a) /\
 i.cell? ((j.add (h.toNat*3)).add 1)=O (.slice k l m) /\
 i.cell? ((j.add (h.toNat*3)).add 2)=O (.slice n o p) /\
 ∀j q,ZC i 111 #[.bool J1,.slice J2 0 0,.slice J2 0 0] j q ->
 Z1 q j (.bool a)/\∀r,ZA q j (.bool a) r ->
 Z1 r (j.add 1) (.slice k l m)/\∀a,ZA r (j.add 1) (.slice k l m) a ->
 Z1 a (j.add 2) (.slice n o p)/\∀k,ZA a (j.add 2) (.slice n o p) k ->
 ∃a l m n o p q,k.cell? j=O (.bool a) /\
 k.cell? (j.add 1)=O (.slice l m n) /\
 k.cell? (j.add 2)=O (.slice o p q) /\
 H J 156 #[.agg #[.bool a,.slice l m n,.slice o p q]] k (fun a j =>
 ∃k l m,a=Z (.slice k l m) /\
 ∃a n,E J (builtinV J7 #[23,23] 23 #[.slice e f g,.slice k l m]) j=J8 a n /\
 ∃j k l,a=(.slice j k l) /\
 c j k l (G Y (h+1)) n/\d j k l (G Y (h+1)) n<d e f g h i)) /\
 (¬h<(b:Int) ->
 H J 160 #[.int Y (f:Int),.int Y 192] i (fun a b =>
 ∃c d h,a=Z (.slice c d h) /\
 ∃a i,E J (builtinV J7 #[23,23] 23 #[.slice c d h,.slice e f g]) b=J8 a i /\
 ∃b c d,a=(.slice b c d) /\
 R (Z (.slice b c d)) i))))))
theorem Z51.vc(a b c d e f g w R)(h:Z51.Vc a b c d e f g w R):H J 156 #[(.agg #[(.bool a),(.slice b c d),(.slice e f g)])] w R:=xs [(7,[(3,.cell (.slice)),(25,.cell (.int Y))])] [.agg [.bool (.var a),.slice b c d,.slice e f g]] Tryz.func156 ZL (by kernel_rfl) h
abbrev Zx.n:Nat:=148
def Zx.Vc(a:Addr)(b:Int)(w:V)(R:C->V->Prop):Prop :=
 ((b>16 ->
 R (Z (.int Y 43)) w) /\
 (¬b>16 ->
 ∃b,w.cell? a=O (.int Y b) /\
 ((b=4096 ->
 R (Z (.int Y 43)) w) /\
 (b≠4096 ->
 ∃b,w.cell? a=O (.int Y b) /\
 Z1 w a (.int Y (G Y (b+1)))/\∀c,ZA w a (.int Y (G Y (b+1))) c ->
 R (Z (.int Y 0)) c))))
theorem Zx.vc(a b w R)(h:Zx.Vc a b w R):H J 148 #[(Q (O a)),(.int Y b)] w R:=xs [] [.addr a,.int Y b] Tryz.func148 ZL (by kernel_rfl) h
abbrev Z7p.n:Nat:=150
def Z7p.Vc(a:Option Addr)(b c:Nat)(w:V)(R:C->V->Prop):Prop :=
 (((b:Int)=1 ->
 ∃c,a=O c /\
 ((0:Int)<=0/\0<(b:Int)) /\
 ∃a,w.cell? (c.add 0)=O (.int J5 a) /\
 R (Z (.bool (decide (a<128)))) w) /\
 ((b:Int)≠1 ->
 R (Z (.bool J1)) w))
theorem Z7p.vc(a b c w R)(h:Z7p.Vc a b c w R):H J 150 #[(.slice a b c)] w R:=xs [] [.slice a b c] Tryz.func150 ZL (by kernel_rfl) h
abbrev Z5r.n:Nat:=160
def Z5r.Vc(a b:Int)(w:V)(R:C->V->Prop):Prop :=
 ((a<=55 ->
 ∀c d,ZC w 5 #[.int J5 (G J5 (G Y (b+a)))] c d ->
 R (Z (.slice (O c) 1 1)) d) /\
 (¬a<=55 ->
 H J 161 #[.int X (G X a)] w (fun a c =>
 ∃d e f,a=Z (.slice d e f) /\
 ∀a g,ZC c 5 #[.int J5 (G J5 (G Y ((G Y (b+55))+(e:Int))))] a g ->
 ∃b c,E J (builtinV J7 #[23,23] 23 #[.slice (O a) 1 1,.slice d e f]) g=J8 b c /\
 ∃a d e,b=(.slice a d e) /\
 R (Z (.slice a d e)) c)))
theorem Z5r.vc(a b w R)(h:Z5r.Vc a b w R):H J 160 #[(.int Y a),(.int Y b)] w R:=xs [] [.int Y a,.int Y b] Tryz.func160 ZL (by kernel_rfl) h
abbrev Z3h.n:Nat:=161
def Z3h.Vc(a:Int)(w:V)(R:C->V->Prop):Prop :=
 ∃(b:Int->Option Addr->Nat->Nat->V->Prop)(c:Int->Option Addr->Nat->Nat->V->Nat),b a J2 0 0 w /\
 (∀(a:Int)(d:Option Addr)(e:Nat)(f:Nat)(g:Nat->Value)(g:V),b a d e f g ->
 ((a>0 ->
 ∀h i,ZC g 5 #[.int J5 (G J5 a)] h i ->
 ∃j k,E J (builtinV J7 #[23,23] 23 #[.slice (O h) 1 1,.slice d e f]) i=J8 j k /\
 ∃h i l,j=(.slice h i l) /\
 b (JF a 256) h i l k/\c (JF a 256) h i l k<c a d e f g) /\
 (¬a>0 ->
 R (Z (.slice d e f)) g)))
theorem Z3h.vc(a w R)(h:Z3h.Vc a w R):H J 161 #[(.int X a)] w R:=xs [(2,[(0,.cell (.int X)),(3,.cell (.slice))])] [.int X a] Tryz.func161 ZL (by kernel_rfl) h
abbrev Z1S.n:Nat:=56
def Z1S.Vc(a:Option Addr)(b c:Nat)(w:V)(R:C->V->Prop):Prop :=
 ∀c d,ZC w 27 (D 32 (.int J5 0)) c d ->
 ∀e f,ZC d 149 (D 25 (.int X 0)) e f ->
 ∃(d:Int->V->Prop)(g:Int->V->Nat),d 0 f /\
 (∀(f:Int)(h:Nat->Value)(h:V),d f h ->
 ((f<=(b:Int) ->
 ∃(i:Int->V->Prop)(j:Int->V->Nat),i 0 h /\
 (∀(k:Int)(l:Nat->Value)(l:V),i k l ->
 ((k<136 ->
 (((G Y (f+k))<(b:Int) ->
 ∃m,a=O m /\
 ((0:Int)<=(G Y (f+k))/\(G Y (f+k))<(b:Int)) /\
 ∃a,l.cell? (m.add (U (G Y (f+k))))=O (.int J5 a) /\
 ((k=135 ->
 (((G Y (f+136))>(b:Int) ->
 ∀m,ZJ l m ->
 ((0:Int)<=(G Y (W k 8))/\(G Y (W k 8))<(25:Int)) /\
 ∃n,m.cell? (e.add (U (G Y (W k 8))))=O (.int X n) /\
 (0:Int)<=(G Y (8*(F k 8))) /\
 ((0:Int)<=(G Y (W k 8))/\(G Y (W k 8))<(25:Int)) /\
 Z1 m (e.add (U (G Y (W k 8)))) (.int X (bitsI J4 X n (shlI X (G X (bitsI .or J5 a 128)) (G Y (8*(F k 8))))))/\∀o,ZA m (e.add (U (G Y (W k 8)))) (.int X (bitsI J4 X n (shlI X (G X (bitsI .or J5 a 128)) (G Y (8*(F k 8)))))) o ->
 i (G Y (k+1)) o/\j (G Y (k+1)) o<j k l) /\
 (¬(G Y (f+136))>(b:Int) ->
 ∀m,ZJ l m ->
 ((0:Int)<=(G Y (W k 8))/\(G Y (W k 8))<(25:Int)) /\
 ∃n,m.cell? (e.add (U (G Y (W k 8))))=O (.int X n) /\
 (0:Int)<=(G Y (8*(F k 8))) /\
 ((0:Int)<=(G Y (W k 8))/\(G Y (W k 8))<(25:Int)) /\
 Z1 m (e.add (U (G Y (W k 8)))) (.int X (bitsI J4 X n (shlI X (G X a) (G Y (8*(F k 8))))))/\∀o,ZA m (e.add (U (G Y (W k 8)))) (.int X (bitsI J4 X n (shlI X (G X a) (G Y (8*(F k 8)))))) o ->
 i (G Y (k+1)) o/\j (G Y (k+1)) o<j k l))) /\
 (k≠135 ->
 ∀m,ZJ l m ->
 ((0:Int)<=(G Y (W k 8))/\(G Y (W k 8))<(25:Int)) /\
 ∃n,m.cell? (e.add (U (G Y (W k 8))))=O (.int X n) /\
 (0:Int)<=(G Y (8*(F k 8))) /\
 ((0:Int)<=(G Y (W k 8))/\(G Y (W k 8))<(25:Int)) /\
 Z1 m (e.add (U (G Y (W k 8)))) (.int X (bitsI J4 X n (shlI X (G X a) (G Y (8*(F k 8))))))/\∀o,ZA m (e.add (U (G Y (W k 8)))) (.int X (bitsI J4 X n (shlI X (G X a) (G Y (8*(F k 8)))))) o ->
 i (G Y (k+1)) o/\j (G Y (k+1)) o<j k l))) /\
 (¬(G Y (f+k))<(b:Int) ->
 (((G Y (f+k))=(b:Int) ->
 ((k=135 ->
 (((G Y (f+136))>(b:Int) ->
 ∃a,E J (Z02 .or 5 (.tmp 45) (.const (.int J5 128)) (.int J5 1) (.int J5 128)) l=J8 a l /\
 ∃m,a=(.int J5 m) /\
 ∀a,ZJ l a ->
 ((0:Int)<=(G Y (W k 8))/\(G Y (W k 8))<(25:Int)) /\
 ∃n,a.cell? (e.add (U (G Y (W k 8))))=O (.int X n) /\
 (0:Int)<=(G Y (8*(F k 8))) /\
 ((0:Int)<=(G Y (W k 8))/\(G Y (W k 8))<(25:Int)) /\
 Z1 a (e.add (U (G Y (W k 8)))) (.int X (bitsI J4 X n (shlI X (G X m) (G Y (8*(F k 8))))))/\∀o,ZA a (e.add (U (G Y (W k 8)))) (.int X (bitsI J4 X n (shlI X (G X m) (G Y (8*(F k 8)))))) o ->
 i (G Y (k+1)) o/\j (G Y (k+1)) o<j k l) /\
 (¬(G Y (f+136))>(b:Int) ->
 ∀a,ZJ l a ->
 ((0:Int)<=(G Y (W k 8))/\(G Y (W k 8))<(25:Int)) /\
 ∃m,a.cell? (e.add (U (G Y (W k 8))))=O (.int X m) /\
 (0:Int)<=(G Y (8*(F k 8))) /\
 ((0:Int)<=(G Y (W k 8))/\(G Y (W k 8))<(25:Int)) /\
 Z1 a (e.add (U (G Y (W k 8)))) (.int X (bitsI J4 X m (shlI X 1 (G Y (8*(F k 8))))))/\∀n,ZA a (e.add (U (G Y (W k 8)))) (.int X (bitsI J4 X m (shlI X 1 (G Y (8*(F k 8)))))) n ->
 i (G Y (k+1)) n/\j (G Y (k+1)) n<j k l))) /\
 (k≠135 ->
 ∀a,ZJ l a ->
 ((0:Int)<=(G Y (W k 8))/\(G Y (W k 8))<(25:Int)) /\
 ∃m,a.cell? (e.add (U (G Y (W k 8))))=O (.int X m) /\
 (0:Int)<=(G Y (8*(F k 8))) /\
 ((0:Int)<=(G Y (W k 8))/\(G Y (W k 8))<(25:Int)) /\
 Z1 a (e.add (U (G Y (W k 8)))) (.int X (bitsI J4 X m (shlI X 1 (G Y (8*(F k 8))))))/\∀n,ZA a (e.add (U (G Y (W k 8)))) (.int X (bitsI J4 X m (shlI X 1 (G Y (8*(F k 8)))))) n ->
 i (G Y (k+1)) n/\j (G Y (k+1)) n<j k l))) /\
 ((G Y (f+k))≠(b:Int) ->
 ((k=135 ->
 (((G Y (f+136))>(b:Int) ->
 ∃a,E J (Z02 .or 5 (.tmp 45) (.const (.int J5 128)) (.int J5 0) (.int J5 128)) l=J8 a l /\
 ∃m,a=(.int J5 m) /\
 ∀a,ZJ l a ->
 ((0:Int)<=(G Y (W k 8))/\(G Y (W k 8))<(25:Int)) /\
 ∃n,a.cell? (e.add (U (G Y (W k 8))))=O (.int X n) /\
 (0:Int)<=(G Y (8*(F k 8))) /\
 ((0:Int)<=(G Y (W k 8))/\(G Y (W k 8))<(25:Int)) /\
 Z1 a (e.add (U (G Y (W k 8)))) (.int X (bitsI J4 X n (shlI X (G X m) (G Y (8*(F k 8))))))/\∀o,ZA a (e.add (U (G Y (W k 8)))) (.int X (bitsI J4 X n (shlI X (G X m) (G Y (8*(F k 8)))))) o ->
 i (G Y (k+1)) o/\j (G Y (k+1)) o<j k l) /\
 (¬(G Y (f+136))>(b:Int) ->
 ∀a,ZJ l a ->
 ((0:Int)<=(G Y (W k 8))/\(G Y (W k 8))<(25:Int)) /\
 ∃m,a.cell? (e.add (U (G Y (W k 8))))=O (.int X m) /\
 (0:Int)<=(G Y (8*(F k 8))) /\
 ((0:Int)<=(G Y (W k 8))/\(G Y (W k 8))<(25:Int)) /\
 Z1 a (e.add (U (G Y (W k 8)))) (.int X (bitsI J4 X m (shlI X 0 (G Y (8*(F k 8))))))/\∀n,ZA a (e.add (U (G Y (W k 8)))) (.int X (bitsI J4 X m (shlI X 0 (G Y (8*(F k 8)))))) n ->
 i (G Y (k+1)) n/\j (G Y (k+1)) n<j k l))) /\
 (k≠135 ->
 ∀a,ZJ l a ->
 ((0:Int)<=(G Y (W k 8))/\(G Y (W k 8))<(25:Int)) /\
 ∃m,a.cell? (e.add (U (G Y (W k 8))))=O (.int X m) /\
 (0:Int)<=(G Y (8*(F k 8))) /\
 ((0:Int)<=(G Y (W k 8))/\(G Y (W k 8))<(25:Int)) /\
 Z1 a (e.add (U (G Y (W k 8)))) (.int X (bitsI J4 X m (shlI X 0 (G Y (8*(F k 8))))))/\∀n,ZA a (e.add (U (G Y (W k 8)))) (.int X (bitsI J4 X m (shlI X 0 (G Y (8*(F k 8)))))) n ->
 i (G Y (k+1)) n/\j (G Y (k+1)) n<j k l))))))) /\
 (¬k<136 ->
 ∃a,ZG l e 25 a /\
 H J 92 #[.agg a] l (fun a i =>
 ∃j,a=Z (.agg j) /\
 ∃a,E J (A 149 (Q (O e)) (.agg j)) i=J8 () a /\
 d (G Y (f+136)) a/\g (G Y (f+136)) a<g f h))))) /\
 (¬f<=(b:Int) ->
 ∀a b,ZC h 27 (D 32 (.int J5 0)) a b ->
 ∃(d:Int->V->Prop)(f:Int->V->Nat),d 0 b /\
 (∀(b:Int)(g:Nat->Value)(g:V),d b g ->
 ((b<32 ->
 ((0:Int)<=(G Y (W b 8))/\(G Y (W b 8))<(25:Int)) /\
 ∃h,g.cell? (e.add (U (G Y (W b 8))))=O (.int X h) /\
 (0:Int)<=(G Y (8*(F b 8))) /\
 ((0:Int)<=b/\b<(32:Int)) /\
 Z1 g (a.add b.toNat) (.int J5 (G J5 (shrI X h (G Y (8*(F b 8))))))/\∀e,ZA g (a.add b.toNat) (.int J5 (G J5 (shrI X h (G Y (8*(F b 8)))))) e ->
 d (G Y (b+1)) e/\f (G Y (b+1)) e<f b g) /\
 (¬b<32 ->
 ∃b,ZG g a 32 b /\
 ∃a,E J (A 27 (Q (O c)) (.agg b)) g=J8 () a /\
 ∃b,ZG a c 32 b /\
 R (Z (.agg b)) a))))))
theorem Z1S.vc(a b c w R)(h:Z1S.Vc a b c w R):H J 56 #[(.slice a b c)] w R:=xs [(4,[(5,.cell (.int Y))]),(7,[(6,.cell (.int Y))]),(20,[(9,.cell (.int Y))])] [.slice a b c] Tryz.func56 ZL (by kernel_rfl) h
abbrev Z3Z.n:Nat:=53
def Z3Z.Vc(a:Option Addr)(b c:Nat)(w:V)(R:C->V->Prop):Prop :=
 ∀c d,ZC w 27 (D 32 (.int J5 0)) c d ->
 H J 85 #[] d (fun d e =>
 ∃f,d=Z (Q f) /\
 ∃(d:Int->V->Prop)(g:Int->V->Nat),d 0 e /\
 (∀(e:Int)(h:Nat->Value)(h:V),d e h ->
 ((e<(b:Int) ->
 ∃i,a=O i /\
 ((0:Int)<=e/\e<(b:Int)) /\
 ∃a j k,h.cell? (i.add e.toNat)=O (.slice a j k) /\
 H J 86 #[Q f,.slice a j k] h (fun a i =>
 a=Z (J0 #[]) /\
 d (G Y (e+1)) i/\g (G Y (e+1)) i<g e h)) /\
 (¬e<(b:Int) ->
 H J 87 #[Q f] h (fun a b =>
 ∃d,a=Z (.agg d) /\
 ∃a,E J (A 27 (Q (O c)) (.agg d)) b=J8 () a /\
 ∃b,ZG a c 32 b /\
 R (Z (.agg b)) a)))))
theorem Z3Z.vc(a b c w R)(h:Z3Z.Vc a b c w R):H J 53 #[(.slice a b c)] w R:=xs [(3,[(9,.cell (.int Y))])] [.slice a b c] Tryz.func53 ZL (by kernel_rfl) h
abbrev Z2w.n:Nat:=85
def Z2w.Vc  (w:V)(R:C->V->Prop):Prop :=
 H J 111 #[] w (fun a b =>
 ∃c,a=Z (.agg c) /\
 JD c=49 /\
 ∀a d,ZC b 175 (lputL #[.int X 0,.int X 0,.int X 0,.int X 0,.int X 0,.int X 0,.int X 0,.int X 0,.int X 0,.int X 0,.int X 0,.int X 0,.int X 0,.int X 0,.int X 0,.int X 0,.int X 0,.int X 0,.int X 0,.int X 0,.int X 0,.int X 0,.int X 0,.int X 0,.int Y 0,.int Y 0,.int Y 0,.int Y 0,.int Y 0,.int Y 0,.int Y 0,.int Y 0,.int Y 0,.int Y 0,.int Y 0,.int Y 0,.int Y 0,.int Y 0,.int Y 0,.int Y 0,.int Y 0,.int Y 0,.int Y 0,.int Y 0,.int Y 0,.int Y 0,.int Y 0,.int Y 0,.int Y 0,.int X 0,.int X 0,.int X 0,.int X 0,.int X 0,.int X 0,.int X 0,.int X 0,.int X 0,.int X 0,.int X 0,.int X 0,.int X 0,.int X 0,.int X 0,.int X 0,.int X 0,.int X 0,.int X 0,.int X 0,.int X 0,.int X 0,.int X 0,.int X 0,.int X 0,.slice J2 0 0] 0 49 c) a d ->
 R (Z (Q (O a))) d)
theorem Z2w.vc  (w:V)(R:C->V->Prop)(h:Z2w.Vc w R):H J 85 #[] w R :=
 Z1Y (R:=⟨R,J1⟩) (ann:=[]) (args:=[]) Tryz.func85 ZL (Eq.mp (by kernel_rfl:Z2w.Vc w R=Z6N (pA J ⟨R,J1⟩) J [] Tryz.f85 [] w) h)
abbrev Z0F.n:Nat:=86
def Z0F.Vc(a:Addr)(b:Option Addr)(c d:Nat)(w:V)(R:C->V->Prop):Prop :=
 ∃e f g,w.cell? (a.add 74)=O (.slice e f g) /\
 ∃h i,E J (builtinV J7 #[23,23] 23 #[.slice e f g,.slice b c d]) w=J8 h i /\
 ∃b c d,h=(.slice b c d) /\
 Z1 i (a.add 74) (.slice b c d)/\∀e,ZA i (a.add 74) (.slice b c d) e ->
 ∃(b:Int->V->Prop)(c:Int->V->Nat),b 0 e /\
 (∀(d:Int)(e:Nat->Value)(e:V),b d e ->
 ∃f g h,e.cell? (a.add 74)=O (.slice f g h) /\
 (((G Y ((g:Int)-d))>=136 ->
 ∀f,ZJ e f ->
 ∃h,ZG f (a.add 49) 25 h /\
 ∃i j k,f.cell? (a.add 74)=O (.slice i j k) /\
 ((0:Int)<=(G Y (d+136))/\(G Y (d+136))<=(k:Int)) /\
 ((0:Int)<=d/\d<=(((U (G Y (d+136))):Nat):Int)) /\
 H J 112 #[.agg h,Q (O a),.slice (subO i k d.toNat 1) ((U (G Y (d+136)))-d.toNat) (k-d.toNat)] f (fun f h =>
 ∃i,f=Z (.agg i) /\
 ∃f,E J (A 173 (Q (O (a.add 49))) (.agg i)) h=J8 () f /\
 b (G Y (d+136)) f/\c (G Y (d+136)) f<c d e)) /\
 (¬(G Y ((g:Int)-d))>=136 ->
 ∀b,ZJ e b ->
 ∃c e f,b.cell? (a.add 74)=O (.slice c e f) /\
 ∃g h i,b.cell? (a.add 74)=O (.slice g h i) /\
 ∃j k l,b.cell? (a.add 74)=O (.slice j k l) /\
 ((0:Int)<=d/\d<=(k:Int)) /\
 ∃m n,E J (builtinV JG #[23,23] 3 #[.slice g h i,.slice (subO j l d.toNat 1) (k-d.toNat) (l-d.toNat)]) b=J8 m n /\
 ∃b,m=(.int Y b) /\
 n.cell? (a.add 74)=O (.slice c e f) /\
 ((0:Int)<=b/\b<=(f:Int)) /\
 Z1 n (a.add 74) (.slice c b.toNat f)/\∀d,ZA n (a.add 74) (.slice c b.toNat f) d ->
 R (Z (J0 #[])) d)))
theorem Z0F.vc(a b c d w R)(h:Z0F.Vc a b c d w R):H J 86 #[(Q (O a)),(.slice b c d)] w R:=xs [(2,[(4,.cell (.int Y))])] [.addr a,.slice b c d] Tryz.func86 ZL (by kernel_rfl) h
abbrev Z0l.n:Nat:=87
def Z0l.Vc(a:Addr)(w:V)(R:C->V->Prop):Prop :=
 ∀b c,ZC w 27 (D 32 (.int J5 0)) b c ->
 ∀d e,ZC c 178 (D 136 (.int J5 0)) d e ->
 ∀c,ZJ e c ->
 ∃e f g,c.cell? (a.add 74)=O (.slice e f g) /\
 ∃h i,E J (builtinV JG #[23,23] 3 #[.slice (O d) 136 136,.slice e f g]) c=J8 h i /\
 ∃c,h=(.int Y c) /\
 ((0:Int)<=c/\c<(136:Int)) /\
 Z1 i (d.add c.toNat) (.int J5 1)/\∀e,ZA i (d.add c.toNat) (.int J5 1) e ->
 ∃c,e.cell? (d.add 135)=O (.int J5 c) /\
 Z1 e (d.add 135) (.int J5 (bitsI .or J5 c 128))/\∀f,ZA e (d.add 135) (.int J5 (bitsI .or J5 c 128)) f ->
 ∀c,ZJ f c ->
 ∃e,ZG c (a.add 49) 25 e /\
 ((H J 112 #[.agg e,Q (O a),.slice (O d) 136 136] c (fun f g =>
 ∃h,f=Z (.agg h) /\
 ∀f i,ZC g 173 (D 25 (.int X 0)) f i ->
 ∃g,E J (A 173 (Q (O f)) (.agg h)) i=J8 () g /\
 ∀h i,ZC g 27 (D 32 (.int J5 0)) h i ->
 ∃(g:Int->V->Prop)(j:Int->V->Nat),g 0 i /\
 (∀(i:Int)(k:Nat->Value)(k:V),g i k ->
 ((i<4 ->
 ∀l,ZJ k l ->
 ((0:Int)<=(G Y (8*i))/\(G Y (8*i))<=(32:Int)) /\
 ((0:Int)<=i/\i<(25:Int)) /\
 ∃m,l.cell? (f.add i.toNat)=O (.int X m) /\
 H J 113 #[.slice J2 0 0,.int X m,.int Y 8] l (fun f l =>
 ∃m n o,f=Z (.slice m n o) /\
 ∃f p,E J (builtinV JG #[23,23] 3 #[.slice (O (subD h 32 (U (G Y (8*i))) 1)) (32-(U (G Y (8*i)))) (32-(U (G Y (8*i)))),.slice m n o]) l=J8 f p /\
 ∃l,f=(.int Y l) /\
 g (G Y (i+1)) p/\j (G Y (i+1)) p<j i k)) /\
 (¬i<4 ->
 ∃f,ZG k h 32 f /\
 ∃g,E J (A 27 (Q (O b)) (.agg f)) k=J8 () g /\
 ∃f,ZG g b 32 f /\
 R (Z (.agg f)) g))))) /\
 (∀f g,ZC c 173 (D 25 (.int X 0)) f g ->
 ZG g (a.add 49) 25 e /\
 H J 112 #[.agg e,Q (O a),.slice (O d) 136 136] g (fun a c =>
 ∃d,a=Z (.agg d) /\
 ∃a,E J (A 173 (Q (O f)) (.agg d)) c=J8 () a /\
 ∀c d,ZC a 27 (D 32 (.int J5 0)) c d ->
 ∃(a:Int->V->Prop)(e:Int->V->Nat),a 0 d /\
 (∀(d:Int)(g:Nat->Value)(g:V),a d g ->
 ((d<4 ->
 ∀h,ZJ g h ->
 ((0:Int)<=(G Y (8*d))/\(G Y (8*d))<=(32:Int)) /\
 ((0:Int)<=d/\d<(25:Int)) /\
 ∃i,h.cell? (f.add d.toNat)=O (.int X i) /\
 H J 113 #[.slice J2 0 0,.int X i,.int Y 8] h (fun f h =>
 ∃i j k,f=Z (.slice i j k) /\
 ∃f l,E J (builtinV JG #[23,23] 3 #[.slice (O (subD c 32 (U (G Y (8*d))) 1)) (32-(U (G Y (8*d)))) (32-(U (G Y (8*d)))),.slice i j k]) h=J8 f l /\
 ∃h,f=(.int Y h) /\
 a (G Y (d+1)) l/\e (G Y (d+1)) l<e d g)) /\
 (¬d<4 ->
 ∃a,ZG g c 32 a /\
 ∃c,E J (A 27 (Q (O b)) (.agg a)) g=J8 () c /\
 ∃a,ZG c b 32 a /\
 R (Z (.agg a)) c))))))
theorem Z0l.vc(a w R)(h:Z0l.Vc a w R):H J 87 #[(Q (O a))] w R:=xs [(8,[(29,.cell (.int Y))])] [.addr a] Tryz.func87 ZL (by kernel_rfl) h
abbrev Z0I.n:Nat:=92
def Z0I.Vc(a:Array Value)(w:V)(R:C->V->Prop):Prop :=
 ∀b c,ZC w 149 a b c ->
 ∀a d,ZC c 149 (D 25 (.int X 0)) a d ->
 ∀c e,ZC d 169 (D 25 (.int Y 0)) c e ->
 ∃d,E J (A 169 (Q (O c)) (.agg (D 25 (.int Y 0)))) e=J8 () d /\
 ∃(e:Int->Int->Int->V->Prop)(f:Int->Int->Int->V->Nat),e 1 0 0 d /\
 (∀(d:Int)(g:Int)(h:Int)(i:Nat->Value)(i:V),e d g h i ->
 ((h<24 ->
 ((0:Int)<=(G Y (d+(G Y (5*g))))/\(G Y (d+(G Y (5*g))))<(25:Int)) /\
 Z1 i (c.add (U (G Y (d+(G Y (5*g)))))) (.int Y (F (G Y (W (G Y ((G Y (h+1))*(G Y (h+2)))) 2)) 64))/\∀j,ZA i (c.add (U (G Y (d+(G Y (5*g)))))) (.int Y (F (G Y (W (G Y ((G Y (h+1))*(G Y (h+2)))) 2)) 64)) j ->
 e g (F (G Y ((G Y (2*d))+(G Y (3*g)))) 5) (G Y (h+1)) j/\f g (F (G Y ((G Y (2*d))+(G Y (3*g)))) 5) (G Y (h+1)) j<f d g h i) /\
 (¬h<24 ->
 ∃(d:Int->Int->V->Prop)(e:Int->Int->V->Nat),d 1 0 i /\
 (∀(f:Int)(g:Int)(h:Nat->Value)(h:V),d f g h ->
 ((g<24 ->
 ∀i j,ZC h 181 #[.int X 0,.int X 0,.int X 0,.int X 0,.int X 0] i j ->
 ∃(k:Int->V->Prop)(l:Int->V->Nat),k 0 j /\
 (∀(j:Int)(m:Nat->Value)(m:V),k j m ->
 ((j<5 ->
 ∀n,ZJ m n ->
 ((0:Int)<=j/\j<(25:Int)) /\
 ∃o,n.cell? (b.add j.toNat)=O (.int X o) /\
 ((0:Int)<=(G Y (j+5))/\(G Y (j+5))<(25:Int)) /\
 ∃p,n.cell? (b.add (U (G Y (j+5))))=O (.int X p) /\
 ((0:Int)<=(G Y (j+10))/\(G Y (j+10))<(25:Int)) /\
 ∃q,n.cell? (b.add (U (G Y (j+10))))=O (.int X q) /\
 ((0:Int)<=(G Y (j+15))/\(G Y (j+15))<(25:Int)) /\
 ∃r,n.cell? (b.add (U (G Y (j+15))))=O (.int X r) /\
 ((0:Int)<=(G Y (j+20))/\(G Y (j+20))<(25:Int)) /\
 ∃s,n.cell? (b.add (U (G Y (j+20))))=O (.int X s) /\
 ((0:Int)<=j/\j<(5:Int)) /\
 Z1 n (i.add j.toNat) (.int X (bitsI J4 X (bitsI J4 X (bitsI J4 X (bitsI J4 X o p) q) r) s))/\∀t,ZA n (i.add j.toNat) (.int X (bitsI J4 X (bitsI J4 X (bitsI J4 X (bitsI J4 X o p) q) r) s)) t ->
 k (G Y (j+1)) t/\l (G Y (j+1)) t<l j m) /\
 (¬j<5 ->
 ∀j k,ZC m 149 (D 25 (.int X 0)) j k ->
 ∃(l:Int->V->Prop)(m:Int->V->Nat),l 0 k /\
 (∀(k:Int)(n:Nat->Value)(n:V),l k n ->
 ((k<5 ->
 ∃(o:Int->V->Prop)(p:Int->V->Nat),o 0 n /\
 (∀(q:Int)(r:Nat->Value)(r:V),o q r ->
 ((q<5 ->
 ∀s,ZJ r s ->
 ((0:Int)<=(G Y (k+(G Y (5*q))))/\(G Y (k+(G Y (5*q))))<(25:Int)) /\
 ∃t,s.cell? (b.add (U (G Y (k+(G Y (5*q))))))=O (.int X t) /\
 ((0:Int)<=(F (G Y (k+4)) 5)/\(F (G Y (k+4)) 5)<(5:Int)) /\
 ∃u,s.cell? (i.add (U (F (G Y (k+4)) 5)))=O (.int X u) /\
 ((0:Int)<=(F (G Y (k+1)) 5)/\(F (G Y (k+1)) 5)<(5:Int)) /\
 ∃v,s.cell? (i.add (U (F (G Y (k+1)) 5)))=O (.int X v) /\
 H J 115 #[.int X v,.int Y 1] s (fun s v =>
 ∃x,s=Z (.int X x) /\
 v.cell? (i.add (U (F (G Y (k+4)) 5)))=O (.int X u) /\
 v.cell? (b.add (U (G Y (k+(G Y (5*q))))))=O (.int X t) /\
 ((0:Int)<=(G Y (k+(G Y (5*q))))/\(G Y (k+(G Y (5*q))))<(25:Int)) /\
 ∃i,v.cell? (c.add (U (G Y (k+(G Y (5*q))))))=O (.int Y i) /\
 H J 115 #[.int X (bitsI J4 X (bitsI J4 X t u) x),.int Y i] v (fun c i =>
 ∃s,c=Z (.int X s) /\
 ((0:Int)<=(G Y (q+(G Y (5*(F (G Y ((G Y (2*k))+(G Y (3*q)))) 5)))))/\(G Y (q+(G Y (5*(F (G Y ((G Y (2*k))+(G Y (3*q)))) 5)))))<(25:Int)) /\
 Z1 i (j.add (U (G Y (q+(G Y (5*(F (G Y ((G Y (2*k))+(G Y (3*q)))) 5))))))) (.int X s)/\∀c,ZA i (j.add (U (G Y (q+(G Y (5*(F (G Y ((G Y (2*k))+(G Y (3*q)))) 5))))))) (.int X s) c ->
 o (G Y (q+1)) c/\p (G Y (q+1)) c<p q r))) /\
 (¬q<5 ->
 l (G Y (k+1)) r/\m (G Y (k+1)) r<m k n)))) /\
 (¬k<5 ->
 ∃(c:Int->V->Prop)(i:Int->V->Nat),c 0 n /\
 (∀(k:Int)(l:Nat->Value)(l:V),c k l ->
 ((k<5 ->
 ∃(m:Int->V->Prop)(n:Int->V->Nat),m 0 l /\
 (∀(o:Int)(p:Nat->Value)(p:V),m o p ->
 ((o<5 ->
 ∀q,ZJ p q ->
 ((0:Int)<=(G Y (k+(G Y (5*o))))/\(G Y (k+(G Y (5*o))))<(25:Int)) /\
 ∃r,q.cell? (j.add (U (G Y (k+(G Y (5*o))))))=O (.int X r) /\
 ((0:Int)<=(G Y ((F (G Y (k+1)) 5)+(G Y (5*o))))/\(G Y ((F (G Y (k+1)) 5)+(G Y (5*o))))<(25:Int)) /\
 ∃s,q.cell? (j.add (U (G Y ((F (G Y (k+1)) 5)+(G Y (5*o))))))=O (.int X s) /\
 ((0:Int)<=(G Y ((F (G Y (k+2)) 5)+(G Y (5*o))))/\(G Y ((F (G Y (k+2)) 5)+(G Y (5*o))))<(25:Int)) /\
 ∃t,q.cell? (j.add (U (G Y ((F (G Y (k+2)) 5)+(G Y (5*o))))))=O (.int X t) /\
 ((0:Int)<=(G Y (k+(G Y (5*o))))/\(G Y (k+(G Y (5*o))))<(25:Int)) /\
 Z1 q (b.add (U (G Y (k+(G Y (5*o)))))) (.int X (bitsI J4 X r (bitsI .and X (bitsI J4 X 18446744073709551615 s) t)))/\∀j,ZA q (b.add (U (G Y (k+(G Y (5*o)))))) (.int X (bitsI J4 X r (bitsI .and X (bitsI J4 X 18446744073709551615 s) t))) j ->
 m (G Y (o+1)) j/\n (G Y (o+1)) j<n o p) /\
 (¬o<5 ->
 c (G Y (k+1)) p/\i (G Y (k+1)) p<i k l)))) /\
 (¬k<5 ->
 ∃(c:Int->Int->V->Prop)(i:Int->Int->V->Nat),c f 0 l /\
 (∀(j:Int)(k:Int)(l:Nat->Value)(l:V),c j k l ->
 ((k<7 ->
 (((F j 2)=1 ->
 ∀m,ZJ l m ->
 ∃n,m.cell? b=O (.int X n) /\
 (0:Int)<=k /\
 (0:Int)<=(G X ((shlI X 1 k)-1)) /\
 Z1 m b (.int X (bitsI J4 X n (shlI X 1 (G X ((shlI X 1 k)-1)))))/\∀o,ZA m b (.int X (bitsI J4 X n (shlI X 1 (G X ((shlI X 1 k)-1))))) o ->
 (((G Y (2*j))>=256 ->
 c (bitsI J4 Y (G Y ((G Y (2*j))-256)) 113) (G Y (k+1)) o/\i (bitsI J4 Y (G Y ((G Y (2*j))-256)) 113) (G Y (k+1)) o<i j k l) /\
 (¬(G Y (2*j))>=256 ->
 c (G Y (2*j)) (G Y (k+1)) o/\i (G Y (2*j)) (G Y (k+1)) o<i j k l))) /\
 ((F j 2)≠1 ->
 (((G Y (2*j))>=256 ->
 c (bitsI J4 Y (G Y ((G Y (2*j))-256)) 113) (G Y (k+1)) l/\i (bitsI J4 Y (G Y ((G Y (2*j))-256)) 113) (G Y (k+1)) l<i j k l) /\
 (¬(G Y (2*j))>=256 ->
 c (G Y (2*j)) (G Y (k+1)) l/\i (G Y (2*j)) (G Y (k+1)) l<i j k l))))) /\
 (¬k<7 ->
 d j (G Y (g+1)) l/\e j (G Y (g+1)) l<e f g h))))))))))))) /\
 (¬g<24 ->
 ∃c,ZG h b 25 c /\
 ∃b,E J (A 149 (Q (O a)) (.agg c)) h=J8 () b /\
 ∃c,ZG b a 25 c /\
 R (Z (.agg c)) b))))))
theorem Z0I.vc(a w R)(h:Z0I.Vc a w R):H J 92 #[(.agg a)] w R:=xs [(4,[(4,.cell (.int Y)),(5,.cell (.int Y)),(6,.cell (.int Y))]),(10,[(7,.cell (.int Y)),(8,.cell (.int Y))]),(14,[(10,.cell (.int Y))]),(19,[(12,.cell (.int Y))]),(22,[(13,.cell (.int Y))]),(27,[(15,.cell (.int Y))]),(30,[(16,.cell (.int Y))]),(34,[(7,.cell (.int Y)),(17,.cell (.int Y))])] [.big 25 a] Tryz.func92 ZL (by kernel_rfl) h
abbrev Z1E.n:Nat:=111
def Z1E.Vc  (w:V)(R:C->V->Prop):Prop :=
 ∀a b,ZC w 171 #[.int X 0,.int X 0,.int X 0,.int X 0,.int X 0,.int X 0,.int X 0,.int X 0,.int X 0,.int X 0,.int X 0,.int X 0,.int X 0,.int X 0,.int X 0,.int X 0,.int X 0,.int X 0,.int X 0,.int X 0,.int X 0,.int X 0,.int X 0,.int X 0,.int Y 0,.int Y 0,.int Y 0,.int Y 0,.int Y 0,.int Y 0,.int Y 0,.int Y 0,.int Y 0,.int Y 0,.int Y 0,.int Y 0,.int Y 0,.int Y 0,.int Y 0,.int Y 0,.int Y 0,.int Y 0,.int Y 0,.int Y 0,.int Y 0,.int Y 0,.int Y 0,.int Y 0,.int Y 0] a b ->
 H J 129 #[] b (fun b c =>
 ∃d,b=Z (.agg d) /\
 H J 130 #[] c (fun b c =>
 ∃e,b=Z (.agg e) /\
 JD d=24 /\
 JD e=25 /\
 ∃b,E J (A 171 (Q (O a)) (.agg (lputL (lputL #[.int X 0,.int X 0,.int X 0,.int X 0,.int X 0,.int X 0,.int X 0,.int X 0,.int X 0,.int X 0,.int X 0,.int X 0,.int X 0,.int X 0,.int X 0,.int X 0,.int X 0,.int X 0,.int X 0,.int X 0,.int X 0,.int X 0,.int X 0,.int X 0,.int Y 0,.int Y 0,.int Y 0,.int Y 0,.int Y 0,.int Y 0,.int Y 0,.int Y 0,.int Y 0,.int Y 0,.int Y 0,.int Y 0,.int Y 0,.int Y 0,.int Y 0,.int Y 0,.int Y 0,.int Y 0,.int Y 0,.int Y 0,.int Y 0,.int Y 0,.int Y 0,.int Y 0,.int Y 0] 0 24 d) 24 25 e))) c=J8 () b /\
 ∃c,ZG b a 49 c /\
 R (Z (.agg c)) b))
theorem Z1E.vc  (w:V)(R:C->V->Prop)(h:Z1E.Vc w R):H J 111 #[] w R :=
 Z1Y (R:=⟨R,J1⟩) (ann:=[]) (args:=[]) Tryz.func111 ZL (Eq.mp (by kernel_rfl:Z1E.Vc w R=Z6N (pA J ⟨R,J1⟩) J [] Tryz.f111 [] w) h)
abbrev Z0G.n:Nat:=112
def Z0G.Vc(a:Array Value)(b:Addr)(c:Option Addr)(d d:Nat)(w:V)(R:C->V->Prop):Prop :=
 ∀e f,ZC w 173 a e f ->
 ∀a g,ZC f 173 (D 25 (.int X 0)) a g ->
 ∃(f:Int->V->Prop)(h:Int->V->Nat),f 0 g /\
 (∀(g:Int)(i:Nat->Value)(i:V),f g i ->
 ((g<17 ->
 ∀j,ZJ i j ->
 ((0:Int)<=g/\g<(25:Int)) /\
 ∃k,j.cell? (e.add g.toNat)=O (.int X k) /\
 ((0:Int)<=(G Y ((G Y (8*g))+8))/\(G Y ((G Y (8*g))+8))<=(d:Int)) /\
 ((0:Int)<=(G Y (8*g))/\(G Y (8*g))<=(((U (G Y ((G Y (8*g))+8))):Nat):Int)) /\
 H J 131 #[.slice (subO c d (U (G Y (8*g))) 1) ((U (G Y ((G Y (8*g))+8)))-(U (G Y (8*g)))) (d-(U (G Y (8*g))))] j (fun c d =>
 ∃j,c=Z (.int X j) /\
 d.cell? (e.add g.toNat)=O (.int X k) /\
 ((0:Int)<=g/\g<(25:Int)) /\
 Z1 d (e.add g.toNat) (.int X (bitsI J4 X k j))/\∀c,ZA d (e.add g.toNat) (.int X (bitsI J4 X k j)) c ->
 f (G Y (g+1)) c/\h (G Y (g+1)) c<h g i)) /\
 (¬g<17 ->
 ∃c,ZG i e 25 c /\
 H J 132 #[.agg c,Q (O b)] i (fun b c =>
 ∃d,b=Z (.agg d) /\
 ∃b,E J (A 173 (Q (O a)) (.agg d)) c=J8 () b /\
 ∃c,ZG b a 25 c /\
 R (Z (.agg c)) b))))
theorem Z0G.vc(a b c d e w R)(h:Z0G.Vc a b c d e w R):H J 112 #[(.agg a),(Q (O b)),(.slice c d e)] w R:=xs [(2,[(8,.cell (.int Y))])] [.big 25 a,.addr b,.slice c d e] Tryz.func112 ZL (by kernel_rfl) h
abbrev Z1z.n:Nat:=113
def Z1z.Vc(a:Option Addr)(b c:Nat)(d e:Int)(w:V)(R:C->V->Prop):Prop :=
 ∃(f:Option Addr->Nat->Nat->Int->V->Prop)(g:Option Addr->Nat->Nat->Int->V->Nat),f a b c 0 w /\
 (∀(a:Option Addr)(b:Nat)(c:Nat)(h:Int)(i:Nat->Value)(i:V),f a b c h i ->
 ((h<e ->
 (0:Int)<=(G Y (8*h)) /\
 ∀j k,ZC i 5 #[.int J5 (G J5 (shrI X d (G Y (8*h))))] j k ->
 ∃d l,E J (builtinV J7 #[23,23] 23 #[.slice a b c,.slice (O j) 1 1]) k=J8 d l /\
 ∃j k m,d=(.slice j k m) /\
 f j k m (G Y (h+1)) l/\g j k m (G Y (h+1)) l<g a b c h i) /\
 (¬h<e ->
 R (Z (.slice a b c)) i)))
theorem Z1z.vc(a b c d e w R)(h:Z1z.Vc a b c d e w R):H J 113 #[(.slice a b c),(.int X d),(.int Y e)] w R:=xs [(2,[(0,.cell (.slice)),(9,.cell (.int Y))])] [.slice a b c,.int X d,.int Y e] Tryz.func113 ZL (by kernel_rfl) h
abbrev Z01.n:Nat:=132
def Z01.Vc(a:Array Value)(b:Addr)(w:V)(R:C->V->Prop):Prop :=
 ∀c d,ZC w 173 a c d ->
 ∀a e,ZC d 173 (D 25 (.int X 0)) a e ->
 ∃(d:Int->V->Prop)(f:Int->V->Nat),d 0 e /\
 (∀(e:Int)(g:Nat->Value)(g:V),d e g ->
 ((e<24 ->
 ∃h,ZG g c 25 h /\
 H J 145 #[.agg h,Q (O b),.int Y e] g (fun b h =>
 ∃i,b=Z (.agg i) /\
 ∃b,E J (A 173 (Q (O c)) (.agg i)) h=J8 () b /\
 d (G Y (e+1)) b/\f (G Y (e+1)) b<f e g)) /\
 (¬e<24 ->
 ∃b,ZG g c 25 b /\
 ∃c,E J (A 173 (Q (O a)) (.agg b)) g=J8 () c /\
 ∃b,ZG c a 25 b /\
 R (Z (.agg b)) c)))
theorem Z01.vc(a b w R)(h:Z01.Vc a b w R):H J 132 #[(.agg a),(Q (O b))] w R:=xs [(2,[(6,.cell (.int Y))])] [.big 25 a,.addr b] Tryz.func132 ZL (by kernel_rfl) h
abbrev Z16.n:Nat:=115
def Z16.Vc(a b:Int)(w:V)(R:C->V->Prop):Prop :=
 ((b=0 ->
 R (Z (.int X a)) w) /\
 (b≠0 ->
 ∀c,ZJ w c ->
 (0:Int)<=b /\
 (0:Int)<=(G Y (64-b)) /\
 R (Z (.int X (bitsI .or X (shlI X a b) (shrI X a (G Y (64-b)))))) c))
theorem Z16.vc(a b w R)(h:Z16.Vc a b w R):H J 115 #[(.int X a),(.int Y b)] w R:=xs [] [.int X a,.int Y b] Tryz.func115 ZL (by kernel_rfl) h
abbrev Z0d.n:Nat:=129
def Z0d.Vc  (w:V)(R:C->V->Prop):Prop :=
 ∀a b,ZC w 168 (D 24 (.int X 0)) a b ->
 ∀c d,ZC b 168 (D 24 (.int X 0)) c d ->
 ∃(b:Int->Int->V->Prop)(e:Int->Int->V->Nat),b 1 0 d /\
 (∀(d:Int)(f:Int)(g:Nat->Value)(g:V),b d f g ->
 ((f<24 ->
 ∃(h:Int->Int->V->Prop)(i:Int->Int->V->Nat),h d 0 g /\
 (∀(j:Int)(k:Int)(l:Nat->Value)(l:V),h j k l ->
 ((k<7 ->
 ∀m,ZJ l m ->
 ((0:Int)<=f/\f<(24:Int)) /\
 ∃n,m.cell? (c.add f.toNat)=O (.int X n) /\
 (0:Int)<=k /\
 (0:Int)<=(G X ((shlI X 1 k)-1)) /\
 ((0:Int)<=f/\f<(24:Int)) /\
 Z1 m (c.add f.toNat) (.int X (bitsI .or X n (shlI X (G X (bitsI .and Y j 1)) (G X ((shlI X 1 k)-1)))))/\∀o,ZA m (c.add f.toNat) (.int X (bitsI .or X n (shlI X (G X (bitsI .and Y j 1)) (G X ((shlI X 1 k)-1))))) o ->
 (((G Y (j*2))>255 ->
 h (bitsI J4 Y (G Y ((G Y (j*2))-256)) 113) (G Y (k+1)) o/\i (bitsI J4 Y (G Y ((G Y (j*2))-256)) 113) (G Y (k+1)) o<i j k l) /\
 (¬(G Y (j*2))>255 ->
 h (G Y (j*2)) (G Y (k+1)) o/\i (G Y (j*2)) (G Y (k+1)) o<i j k l))) /\
 (¬k<7 ->
 b j (G Y (f+1)) l/\e j (G Y (f+1)) l<e d f g)))) /\
 (¬f<24 ->
 ∃b,ZG g c 24 b /\
 ∃c,E J (A 168 (Q (O a)) (.agg b)) g=J8 () c /\
 ∃b,ZG c a 24 b /\
 R (Z (.agg b)) c)))
theorem Z0d.vc  (w:V)(R:C->V->Prop)(h:Z0d.Vc w R):H J 129 #[] w R :=
 Z1Y (R:=⟨R,J1⟩) (ann:=[(4,[(2,.cell (.int Y)),(5,.cell (.int Y))]),(7,[(2,.cell (.int Y)),(8,.cell (.int Y))])]) (args:=[]) Tryz.func129 ZL (Eq.mp (by kernel_rfl:Z0d.Vc w R=Z6N (pA J ⟨R,J1⟩) J [(4,[(2,.cell (.int Y)),(5,.cell (.int Y))]),(7,[(2,.cell (.int Y)),(8,.cell (.int Y))])] Tryz.f129 [] w) h)
abbrev Z1y.n:Nat:=130
def Z1y.Vc  (w:V)(R:C->V->Prop):Prop :=
 ∀a b,ZC w 169 (D 25 (.int Y 0)) a b ->
 ∀c d,ZC b 169 (D 25 (.int Y 0)) c d ->
 ∃(b:Int->Int->Int->V->Prop)(e:Int->Int->Int->V->Nat),b 1 0 0 d /\
 (∀(d:Int)(f:Int)(g:Int)(h:Nat->Value)(h:V),b d f g h ->
 ((g<24 ->
 H J 144 #[.int Y d,.int Y f] h (fun i j =>
 ∃k,i=Z (.int Y k) /\
 ((0:Int)<=k/\k<(25:Int)) /\
 Z1 j (c.add k.toNat) (.int Y (F (G Y (W (G Y ((G Y (g+1))*(G Y (g+2)))) 2)) 64))/\∀i,ZA j (c.add k.toNat) (.int Y (F (G Y (W (G Y ((G Y (g+1))*(G Y (g+2)))) 2)) 64)) i ->
 b f (F (G Y ((G Y (2*d))+(G Y (3*f)))) 5) (G Y (g+1)) i/\e f (F (G Y ((G Y (2*d))+(G Y (3*f)))) 5) (G Y (g+1)) i<e d f g h)) /\
 (¬g<24 ->
 ∃b,ZG h c 25 b /\
 ∃c,E J (A 169 (Q (O a)) (.agg b)) h=J8 () c /\
 ∃b,ZG c a 25 b /\
 R (Z (.agg b)) c)))
theorem Z1y.vc  (w:V)(R:C->V->Prop)(h:Z1y.Vc w R):H J 130 #[] w R :=
 Z1Y (R:=⟨R,J1⟩) (ann:=[(4,[(2,.cell (.int Y)),(3,.cell (.int Y)),(5,.cell (.int Y))])]) (args:=[]) Tryz.func130 ZL (Eq.mp (by kernel_rfl:Z1y.Vc w R=Z6N (pA J ⟨R,J1⟩) J [(4,[(2,.cell (.int Y)),(3,.cell (.int Y)),(5,.cell (.int Y))])] Tryz.f130 [] w) h)
abbrev Z1f.n:Nat:=131
def Z1f.Vc(a:Option Addr)(b c:Nat)(w:V)(R:C->V->Prop):Prop :=
 ∃(c:Int->Int->V->Prop)(d:Int->Int->V->Nat),c 0 0 w /\
 (∀(e:Int)(f:Int)(g:Nat->Value)(g:V),c e f g ->
 ((f<(b:Int) ->
 ∃h,a=O h /\
 ((0:Int)<=f/\f<(b:Int)) /\
 ∃a,g.cell? (h.add f.toNat)=O (.int J5 a) /\
 (0:Int)<=(G Y (8*f)) /\
 c (bitsI .or X e (shlI X (G X a) (G Y (8*f)))) (G Y (f+1)) g/\d (bitsI .or X e (shlI X (G X a) (G Y (8*f)))) (G Y (f+1)) g<d e f g) /\
 (¬f<(b:Int) ->
 R (Z (.int X e)) g)))
theorem Z1f.vc(a b c w R)(h:Z1f.Vc a b c w R):H J 131 #[(.slice a b c)] w R:=xs [(3,[(3,.cell (.int X)),(8,.cell (.int Y))])] [.slice a b c] Tryz.func131 ZL (by kernel_rfl) h
abbrev Z0X.n:Nat:=145
def Z0X.Vc(a:Array Value)(b:Addr)(c:Int)(w:V)(R:C->V->Prop):Prop :=
 ∀d e,ZC w 173 a d e ->
 ∀a f,ZC e 173 (D 25 (.int X 0)) a f ->
 ∀e g,ZC f 181 #[.int X 0,.int X 0,.int X 0,.int X 0,.int X 0] e g ->
 ∃(f:Int->V->Prop)(h:Int->V->Nat),f 0 g /\
 (∀(g:Int)(i:Nat->Value)(i:V),f g i ->
 ((g<5 ->
 ∃(j:Int->V->Prop)(k:Int->V->Nat),j 0 i /\
 (∀(l:Int)(m:Nat->Value)(m:V),j l m ->
 ((l<5 ->
 ∀n,ZJ m n ->
 ((0:Int)<=g/\g<(5:Int)) /\
 ∃o,n.cell? (e.add g.toNat)=O (.int X o) /\
 H J 144 #[.int Y g,.int Y l] n (fun n p =>
 ∃q,n=Z (.int Y q) /\
 p.cell? (e.add g.toNat)=O (.int X o) /\
 ((0:Int)<=q/\q<(25:Int)) /\
 ∃n,p.cell? (d.add q.toNat)=O (.int X n) /\
 ((0:Int)<=g/\g<(5:Int)) /\
 Z1 p (e.add g.toNat) (.int X (bitsI J4 X o n))/\∀q,ZA p (e.add g.toNat) (.int X (bitsI J4 X o n)) q ->
 j (G Y (l+1)) q/\k (G Y (l+1)) q<k l m)) /\
 (¬l<5 ->
 f (G Y (g+1)) m/\h (G Y (g+1)) m<h g i)))) /\
 (¬g<5 ->
 ∀f g,ZC i 173 (D 25 (.int X 0)) f g ->
 ∃(h:Int->V->Prop)(i:Int->V->Nat),h 0 g /\
 (∀(g:Int)(j:Nat->Value)(j:V),h g j ->
 ((g<5 ->
 ∀k,ZJ j k ->
 ((0:Int)<=(F (G Y ((G Y (g+5))-1)) 5)/\(F (G Y ((G Y (g+5))-1)) 5)<(5:Int)) /\
 ∃l,k.cell? (e.add (U (F (G Y ((G Y (g+5))-1)) 5)))=O (.int X l) /\
 ((0:Int)<=(F (G Y (g+1)) 5)/\(F (G Y (g+1)) 5)<(5:Int)) /\
 ∃m,k.cell? (e.add (U (F (G Y (g+1)) 5)))=O (.int X m) /\
 H J 157 #[.int X m,.int Y 1] k (fun k m =>
 ∃n,k=Z (.int X n) /\
 m.cell? (e.add (U (F (G Y ((G Y (g+5))-1)) 5)))=O (.int X l) /\
 ∃(e:Int->V->Prop)(k:Int->V->Nat),e 0 m /\
 (∀(m:Int)(o:Nat->Value)(o:V),e m o ->
 ((m<5 ->
 ∀p,ZJ o p ->
 H J 144 #[.int Y m,.int Y (G Y ((G Y (2*g))+(G Y (3*m))))] p (fun p q =>
 ∃r,p=Z (.int Y r) /\
 H J 144 #[.int Y g,.int Y m] q (fun p q =>
 ∃s,p=Z (.int Y s) /\
 ((0:Int)<=s/\s<(25:Int)) /\
 ∃p,q.cell? (d.add s.toNat)=O (.int X p) /\
 H J 144 #[.int Y g,.int Y m] q (fun q t =>
 ∃u,q=Z (.int Y u) /\
 t.cell? (d.add s.toNat)=O (.int X p) /\
 ((0:Int)<=u/\u<(25:Int)) /\
 ∃d,t.cell? ((b.add 24).add u.toNat)=O (.int Y d) /\
 H J 157 #[.int X (bitsI J4 X p (bitsI J4 X l n)),.int Y d] t (fun d l =>
 ∃n,d=Z (.int X n) /\
 ((0:Int)<=r/\r<(25:Int)) /\
 Z1 l (f.add r.toNat) (.int X n)/\∀d,ZA l (f.add r.toNat) (.int X n) d ->
 e (G Y (m+1)) d/\k (G Y (m+1)) d<k m o))))) /\
 (¬m<5 ->
 h (G Y (g+1)) o/\i (G Y (g+1)) o<i g j))))) /\
 (¬g<5 ->
 ∀d e,ZC j 173 (D 25 (.int X 0)) d e ->
 ∃(g:Int->V->Prop)(h:Int->V->Nat),g 0 e /\
 (∀(e:Int)(i:Nat->Value)(i:V),g e i ->
 ((e<5 ->
 ∃(j:Int->V->Prop)(k:Int->V->Nat),j 0 i /\
 (∀(l:Int)(m:Nat->Value)(m:V),j l m ->
 ((l<5 ->
 ∀n,ZJ m n ->
 H J 144 #[.int Y e,.int Y l] n (fun n o =>
 ∃p,n=Z (.int Y p) /\
 H J 144 #[.int Y e,.int Y l] o (fun n o =>
 ∃q,n=Z (.int Y q) /\
 ((0:Int)<=q/\q<(25:Int)) /\
 ∃n,o.cell? (f.add q.toNat)=O (.int X n) /\
 H J 144 #[.int Y (G Y (e+1)),.int Y l] o (fun o r =>
 ∃s,o=Z (.int Y s) /\
 r.cell? (f.add q.toNat)=O (.int X n) /\
 ((0:Int)<=s/\s<(25:Int)) /\
 ∃o,r.cell? (f.add s.toNat)=O (.int X o) /\
 H J 144 #[.int Y (G Y (e+2)),.int Y l] r (fun r t =>
 ∃u,r=Z (.int Y u) /\
 t.cell? (f.add s.toNat)=O (.int X o) /\
 t.cell? (f.add q.toNat)=O (.int X n) /\
 ((0:Int)<=u/\u<(25:Int)) /\
 ∃q,t.cell? (f.add u.toNat)=O (.int X q) /\
 ((0:Int)<=p/\p<(25:Int)) /\
 Z1 t (d.add p.toNat) (.int X (bitsI J4 X n (bitsI .and X (bitsI J4 X 18446744073709551615 o) q)))/\∀f,ZA t (d.add p.toNat) (.int X (bitsI J4 X n (bitsI .and X (bitsI J4 X 18446744073709551615 o) q))) f ->
 j (G Y (l+1)) f/\k (G Y (l+1)) f<k l m))))) /\
 (¬l<5 ->
 g (G Y (e+1)) m/\h (G Y (e+1)) m<h e i)))) /\
 (¬e<5 ->
 ∀e,ZJ i e ->
 ∃f,e.cell? d=O (.int X f) /\
 ((0:Int)<=c/\c<(24:Int)) /\
 ∃g,e.cell? (b.add c.toNat)=O (.int X g) /\
 Z1 e d (.int X (bitsI J4 X f g))/\∀b,ZA e d (.int X (bitsI J4 X f g)) b ->
 ∃c,ZG b d 25 c /\
 ∃d,E J (A 173 (Q (O a)) (.agg c)) b=J8 () d /\
 ∃b,ZG d a 25 b /\
 R (Z (.agg b)) d)))))))))
theorem Z0X.vc(a b c w R)(h:Z0X.Vc a b c w R):H J 145 #[(.agg a),(Q (O b)),(.int Y c)] w R:=xs [(3,[(17,.cell (.int Y))]),(6,[(20,.cell (.int Y))]),(13,[(35,.cell (.int Y))]),(17,[(51,.cell (.int Y))]),(24,[(80,.cell (.int Y))]),(27,[(83,.cell (.int Y))])] [.big 25 a,.addr b,.int Y c] Tryz.func145 ZL (by kernel_rfl) h
abbrev Z4Q.n:Nat:=144
def Z4Q.Vc(a b:Int)(w:V)(R:C->V->Prop):Prop :=
 R (Z (.int Y (G Y ((F a 5)+(G Y (5*(F b 5))))))) w
theorem Z4Q.vc(a b w R)(h:Z4Q.Vc a b w R):H J 144 #[(.int Y a),(.int Y b)] w R:=xs [] [.int Y a,.int Y b] Tryz.func144 ZL (by kernel_rfl) h
abbrev Zu.n:Nat:=157
def Zu.Vc(a b:Int)(w:V)(R:C->V->Prop):Prop :=
 (0:Int)<=(bitsI .and X (G X b) 63) /\
 (0:Int)<=(G X (64-(bitsI .and X (G X b) 63))) /\
 R (Z (.int X (bitsI .or X (shlI X a (bitsI .and X (G X b) 63)) (shrI X a (G X (64-(bitsI .and X (G X b) 63))))))) w
theorem Zu.vc(a b w R)(h:Zu.Vc a b w R):H J 157 #[(.int X a),(.int Y b)] w R:=xs [] [.int X a,.int Y b] Tryz.func157 ZL (by kernel_rfl) h
end Go.Proofs.YtfghidehlnfdiaaGreat
end
section
namespace Go.Vcg
open Go.RowKit (Below)
@[simp] theorem Z3(b i n:Nat):Addr.add ⟨b,i,J2⟩ n=⟨b,i+n,J2⟩:=by
  unfold Addr.add;split<;>simp_all
def Blk(w:V)(b:Nat)(t:JC)(cs:Array Value):Prop:=w.heap[b]?=O (.cells cs t (0,0))
structure Mod (S:Nat->Prop) (w w':V):Prop where
 os:w'.os=w.os
 tape:w'.tape=w.tape
 output:w'.output=w.output
 size:w.heap.size<=w'.heap.size
 block:∀k,k<w.heap.size->¬S k->w'.heap[k]?=w.heap[k]?
abbrev NoB:Nat->Prop:=fun _=>False
theorem Mod.refl{S}(w:V):Mod S w w:=⟨rfl,rfl,rfl,Nat.le_refl _,fun _ _ _=>rfl⟩
theorem Mod.trans{S T:Nat->Prop}{a b c:V}(h:Mod S a b)(k:Mod T b c)(hs:∀i,i<a.heap.size->T i->S i):Mod S a c :=
 ⟨k.os.trans h.os,k.tape.trans h.tape,k.output.trans h.output,Nat.le_trans h.size k.size,
  fun i hi hn=>(k.block i (Nat.lt_of_lt_of_le hi h.size) (fun ht=>hn (hs i hi ht))).trans (h.block i hi hn)⟩
theorem Mod.mono{S T:Nat->Prop}{a b:V}(h:Mod S a b)(hs:∀i,i<a.heap.size->S i->T i):Mod T a b :=
 ⟨h.os,h.tape,h.output,h.size,fun i hi hn=>h.block i hi (fun k=>hn (hs i hi k))⟩
theorem Mod.none_trans{S:Nat->Prop}{a b c:V}(h:Mod S a b)(k:Mod NoB b c):Mod S a c:=h.trans k (fun _ _ h=>h.elim)
theorem Mod.below{w w':V}(h:Mod NoB w w'):Below w.heap.size w w':=⟨h.os,h.tape,h.output,h.size,fun k hk=>h.block k hk (fun h=>h)⟩
theorem Mod.drew(w:V){S}:Mod S w w.drew:=⟨rfl,rfl,rfl,Nat.le_refl _,fun _ _ _=>rfl⟩
theorem Mod.alloc(w:V)(o:Obj){S}:Mod S w (w.alloc o):=⟨rfl,rfl,rfl,by simp,fun k hk _=>heap_alloc_old w o hk⟩
theorem Mod.setCell(w:V)(a:Addr)(v:Value):Mod (·=a.block) w (w.setCell a v) :=
 ⟨rfl,rfl,rfl,by simp[World.setCell],fun k hk hn=>heap_setCell_other w a k v hn⟩
theorem Mod.setRow(w:V)(g:Nat)(cs:Array Value):Mod (·=g) w (w.setRow g cs) :=
 ⟨rfl,rfl,rfl,by simp[World.setRow],fun k hk hn=>setRow_other w g k _ hn⟩
theorem Mod.step_drew{S}{w0 w:V}(h:Mod S w0 w):Mod S w0 w.drew:=h.none_trans (Mod.drew w)
theorem Mod.step_alloc{S}{w0 w:V}(h:Mod S w0 w)(o:Obj):Mod S w0 (w.alloc o):=h.none_trans (Mod.alloc w o)
theorem Mod.step_set{S:Nat->Prop}{w0 w:V}(h:Mod S w0 w){a:Addr}{v:Value}(hs:a.block<w0.heap.size->S a.block):Mod S w0 (w.setCell a v) :=
 h.trans (Mod.setCell w a v) (fun i hi e=>by subst e;exact hs hi)
theorem Mod.step_row{S:Nat->Prop}{w0 w:V}(h:Mod S w0 w){g:Nat}{cs}(hs:g<w0.heap.size->S g):Mod S w0 (w.setRow g cs) :=
 h.trans (Mod.setRow w g cs) (fun i hi e=>by subst e;exact hs hi)
theorem ZE(w:V)(o:Obj):(w.alloc o).heap.size=w.heap.size+1:=by simp
theorem Z5e(w:V)(a:Addr)(v:Value):(w.setCell a v).heap.size=w.heap.size:=by simp[World.setCell]
theorem Z9Z(w:V)(g:Nat)(cs):(w.setRow g cs).heap.size=w.heap.size:=by simp[World.setRow]
theorem ZCj(w:V):w.drew.heap.size=w.heap.size:=rfl
section
variable{w w':V}{b:Nat}{t:JC}{cs:Array Value}
theorem Blk.lt(h:Blk w b t cs):b<w.heap.size:=(Array.getElem?_eq_some_iff.1 h).1
theorem Blk.mod{S:Nat->Prop}(h:Blk w b t cs)(m:Mod S w w')(hs:¬S b):Blk w' b t cs:=(m.block b h.lt hs).trans h
theorem Blk.mod'(h:Blk w b t cs)(m:Mod NoB w w'):Blk w' b t cs:=h.mod m (fun h=>h)
theorem Blk.drew(h:Blk w b t cs):Blk w.drew b t cs:=h
theorem Blk.alloc(h:Blk w b t cs)(o:Obj):Blk (w.alloc o) b t cs:=h.mod' (Mod.alloc w o)
theorem Blk.new(w:V)(t:JC)(cs:Array Value):Blk (w.alloc (.cells cs t)) w.heap.size t cs:=heap_alloc_new w _
theorem Blk.set(h:Blk w b t cs)(i:Nat)(v:Value):Blk (w.setCell ⟨b,i,J2⟩ v) b t (cs.setIfInBounds i v):=heap_setCell_same w b i cs t v h
theorem Blk.set_ne(h:Blk w b t cs){a:Addr}{v:Value}(hn:b≠a.block):Blk (w.setCell a v) b t cs:=h.mod (Mod.setCell w a v) hn
theorem Blk.row_ne(h:Blk w b t cs){g:Nat}{c:Array Value}(hn:b≠g):Blk (w.setRow g c) b t cs:=h.mod (Mod.setRow w g c) hn
theorem Blk.row_same(h:Blk w b t cs)(c:Array Value):Blk (w.setRow b c) b t c:=setRow_heap w b cs c t _ h
theorem Blk.cell(h:Blk w b t cs)(i:Nat):w.cell? ⟨b,i,J2⟩=cs[i]?:=cell_of_row w b i cs t _ h
theorem Blk.canSet(h:Blk w b t cs){i:Nat}{v:Value}(hi:i<cs.size)(hv:v.oneCell'=J6):Z1 w ⟨b,i,J2⟩ v :=
 ⟨hv,⟨cs[i],by rw[h.cell];simp[hi]⟩,by simp[World.frozen?,show w.heap[b]?=_ from h]⟩
theorem Blk.rowAt(h:Blk w b t cs){o n:Nat}{L:Array Value}(hn:L.size=n)(hl:∀i,i<n->cs[o+i]?=L[i]?):ZG w ⟨b,o,J2⟩ n L :=
 ⟨hn,fun i hi=>by rw[Z3,h.cell,hl i hi]⟩
theorem Blk.rowAll(h:Blk w b t cs){n:Nat}(hn:cs.size=n):ZG w ⟨b,0,J2⟩ n cs :=
 h.rowAt hn (fun i _=>by simp)
theorem Blk.storeAt{P:Program}(h:Blk w b t cs){ty:JC}{i:TypeInfo}{L:Array Value}{o:Nat}(hi:P.info? ty=O i)(hsz:i.size=L.size)
  (hb:o+L.size<=cs.size) (h1:∀v∈L.toList,v.oneCell'=J6) :
  E P (A ty (Q (O ⟨b,o,J2⟩)) (.agg L)) w=J8 () (w.setRow b (cs.toList.take o++L.toList++cs.toList.drop (o+L.size)).toArray):=by
 have hst:=run_storeCells_at P b o t L.toList 0 cs w h (by simpa using hb) h1;simp only[Nat.add_zero,Array.length_toList]at hst;simp only[A,Instr.sureAddr,pure_bind];unfold storeVar;simp[Sem.run_bind,sizeOf,typeInfo,hi,hsz,Value.cells,hst]
end
theorem Blk.storeAll{w:V}{b:Nat}{t:JC}{cs:Array Value}{P:Program}(h:Blk w b t cs){ty:JC}{L:Array Value}(hi:(P.info? ty).map (·.size)=O L.size)
  (hb:cs.size=L.size) (h1:∀v∈L.toList,v.oneCell'=J6) :
  E P (A ty (Q (O ⟨b,0,J2⟩)) (.agg L)) w=J8 () (w.setRow b L):=by
 obtain⟨i,hi',hsz⟩:=Option.map_eq_some_iff.1 hi;rw[h.storeAt hi' hsz (by omega) h1];have:cs.toList.drop (0+L.size)=[]:=List.drop_eq_nil_of_le (by simp;omega);rw[this];simp
theorem Blk.rd0{w:V}{b:Nat}{t:JC}{cs:Array Value}(h:Blk w b t cs){i:Nat}{v:Value}(hv:cs[i]?=O v) :
 w.cell? (Addr.add ⟨b,0,J2⟩ (U (i:Int)))=O v:=by rw[JB,Z3,h.cell,Nat.zero_add,hv]
theorem Blk.rd1{w:V}{b i:Nat}{t:JC}{cs:Array Value}(h:Blk w b t cs){v:Value}(hv:cs[i]?=O v) :
 w.cell? ⟨b,i,J2⟩=O v:=by rw[h.cell,hv]
theorem Blk.canSet0{w:V}{b:Nat}{t:JC}{cs:Array Value}(h:Blk w b t cs){i:Nat}{v:Value}(hi:i<cs.size)(hv:v.oneCell'=J6):Z1 w (Addr.add ⟨b,0,J2⟩ (U (i:Int))) v:=by
 rw[JB,Z3,Nat.zero_add];exact h.canSet hi hv
theorem ZA.at{w w':V}{b i:Nat}{v:Value}(h:ZA w (Addr.add ⟨b,0,J2⟩ (U (i:Int))) v w'):w'=w.setCell ⟨b,i,J2⟩ v:=by
 rw[ZA,JB,Z3,Nat.zero_add]at h;exact h
def Z9k(N:Nat)(Inv:Nat->V->Prop)(n:Int)(w:V):Prop:=∃k:Nat,n=(k:Int)/\k<=N/\Inv k w
abbrev ZJP(N:Nat)(n:Int)(_:V):Nat:=((N:Int)-n).toNat
theorem Z5P{w:V}{b:Int}{B:(Int->V->Prop)->(Int->V->Nat)->Int->(Nat->Value)->V->Prop}{K:Int->(Nat->Value)->V->Prop}
  (N:Nat) (Inv:Nat->V->Prop) (hb:b=(N:Int)) (h0:Inv 0 w)
  (hB:∀(k:Nat)(j:Nat->Value)(w':V),k<N->Inv k w'->B (Z9k N Inv) (ZJP N) (k:Int) j w')
  (hK:∀(j:Nat->Value)(w':V),Inv N w'->K (N:Int) j w') :
  ∃(I:Int->V->Prop)(μ:Int->V->Nat),I 0 w/\(∀(n:Int)(j:Nat->Value)(w4:V),I n w4->((n<b->B I μ n j w4)/\(¬n<b->K n j w4))):=by
 subst hb;refine⟨Z9k N Inv,ZJP N,⟨0,rfl,Nat.zero_le _,h0⟩,?_⟩;rintro _ j w'⟨k,rfl,hk,hI⟩;refine⟨fun h=>hB k j w' (by omega) hI,fun h=>?_⟩;have:k=N:=by omega
 subst this;exact hK j w' hI
theorem Z9k.next{N:Nat}{Inv:Nat->V->Prop}{k:Nat}{m:Int}{w w':V}(hm:m=((k+1:Nat):Int))(hk:k<N)(h:Inv (k+1) w'):Z9k N Inv m w'/\ZJP N m w'<ZJP N (k:Int) w:=by
 subst hm;exact⟨⟨k+1,rfl,hk,h⟩,by simp only[ZJP];omega⟩
end Go.Vcg
end
