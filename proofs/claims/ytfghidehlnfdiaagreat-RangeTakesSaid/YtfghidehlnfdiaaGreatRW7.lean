/- Keys with values as arguments; how long what came in can be. -/
/- A hash, lists of bytes as arguments. -/
/- Entries as arguments. -/
/- Nodes as an argument. -/
import Derived.Test.YtfghidehlnfdiaaGreatRows
import Derived.Test.YtfghidehlnfdiaaGreatRG5
import Derived.Test.YtfghidehlnfdiaaGreatXSize
import Derived.Test.YtfghidehlnfdiaaGreatTP3
import Derived.Test.YtfghidehlnfdiaaGreatRT5
import Derived.Test.YtfghidehlnfdiaaGreatTR2
set_option linter.unusedVariables false
set_option linter.unusedSimpArgs false
open Classical renaming choose->G,choose_spec->Y
open Go renaming Field->A,MemPlace->F,TypeId->L,World->E
open Go.DataW renaming trod->J
open Go.Proofs.Tryz renaming prog->Q
open List renaming drop_eq_getElem_cons->U,getElem?_eq_getElem->X,getElem?_eq_none->T,getElem?_map->K,getElem?_range->Z,getElem_map->D,getElem_range->M,length_range->N,mem_of_getElem?->I,range->O,take_succ_cons->S,take_zero->R
open Option renaming none->B,some->V
section
namespace Go.Vcg
section
variable{H:Type}{enc:L×Value->H}{P:Program}{W:E}{sp:Nat->Bool}{held:Bool}{base:Nat}
theorem ZA7{a:Addr}{n:Nat}{vs:List Value}(h:W.cells? base a n=V vs):vs.length=n/\∀j u,vs[j]?=V u->W.cell? (a.add j)=V u:=by
 unfold World.cells? at h;split at h
 ·obtain⟨hl,hg⟩:=Z6x h
  rw[N]at hl;refine⟨hl,fun j u hu=>?_⟩;have hj:j<n:=by rw[<-hl];exact(List.getElem?_eq_some_iff.1 hu).1
  obtain⟨y,hy,hc⟩:=hg j j (by rw[Z hj]);rw[hy]at hu;cases hu;exact hc
 ·cases h
theorem ZGB{a:Addr}{u:Value}(h:W.cell? a=V u):a.spot=B/\a.block<W.heap.size:=by
 unfold World.cell? at h;cases hs:a.spot with
 |none =>
  rw[hs]at h;refine⟨rfl,?_⟩;split at h
  ·rename_i hb;exact(Array.getElem?_eq_some_iff.1 hb).1
  ·cases h
 |some x =>
  rw[hs]at h;split at h<;>simp at h
theorem Z7K{fuel:Nat}{t e:L}{v:Value}{d:DataW H}{ps:List F}{n:Nat}(ht:P.underlying t=V (.slice e))(hce:P.cellsOf e=n)(hn:0<n)
  (h:J enc P W base sp held fuel t [v]=V (d,ps)) :
  ∃o l c,v=.slice o l c/\l<=c/\((l=0/\d=.nil)\/∃elems spare,d=.slice elems spare/\elems.length=l/\∀i,i<l->∃b f us d' ps' fuel',o=V ⟨b,f,B⟩/\b<W.heap.size/\us.length=n/\(∀j u,us[j]?=V u->W.cell? ⟨b,f+i*n+j,B⟩=V u)/\J enc P W base sp held fuel' e us=V (d',ps')/\elems[i]?=V d'):=by
 cases fuel with
 |zero=>simp[J]at h
 |succ fuel =>
  cases v with
  |slice o l c =>
   cases o with
   |none =>
    have:l=0/\c=0:=by
     rcases l with _|l<;>rcases c with _|c<;>simp[J,ht]at h ⊢
    obtain⟨rfl,rfl⟩:=this;simp[J,ht]at h;exact⟨B,0,0,rfl,Nat.le_refl _,.inl ⟨rfl,h.1.symm⟩⟩
   |some a =>
    simp only[J,ht,hce]at h;split at h
    ·rename_i hb0
     obtain⟨els,hm,h2⟩:=Option.bind_eq_some_iff.1 h;obtain⟨rest,_,h3⟩:=Option.map_eq_some_iff.1 h2;cases h3;obtain⟨hl,hg⟩:=Z6x hm;rw[N]at hl;refine⟨V a,l,c,rfl,hb0.2.1,.inr ⟨_,_,rfl,by simp[hl],fun i hi=>?_⟩⟩;obtain⟨y,hy1,hy⟩:=hg i i (by rw[Z hi]);obtain⟨vs,hv,hd⟩:=Option.bind_eq_some_iff.1 hy;obtain⟨hlv,hgv⟩:=ZA7 hv;obtain⟨y0,_,hy0⟩:=hg 0 0 (by rw[Z (by omega)]);obtain⟨vs0,hv0,_⟩:=Option.bind_eq_some_iff.1 hy0;obtain⟨hl0,hg0⟩:=ZA7 hv0;obtain⟨u,hu⟩:∃u,vs0[0]?=V u:=⟨vs0[0]'(by omega),X (by omega)⟩;obtain⟨hs,hb⟩:=ZGB (hg0 0 u hu);obtain⟨b,f,spot⟩:=a;have hs':spot=B:=by simpa[Addr.add]using hs
     have hb':b<W.heap.size:=by simpa[Addr.add]using hb
     subst hs';refine⟨b,f,vs,y.1,y.2,fuel,rfl,hb',hlv,fun j u hu=>?_,hd,by rw[K,hy1];rfl⟩;have:=hgv j u hu;rw[Z3,Z3]at this;exact this
    ·cases h
  |_=>simp[J,ht]at h
theorem ZAg{fuel:Nat}{t:L}{fs:Array A}{us:List Value}{d:DataW H}{ps:List F}(ht:P.underlying t=V (.struct fs))(h:J enc P W base sp held fuel t us=V (d,ps)) :
  us.length=P.cellsOf t/\∃parts,d=.agg parts/\∀(k:Nat)(f:A),fs[k]?=V f->∃fuel' d' ps',J enc P W base sp held fuel' f.type ((us.drop f.offset).take (P.cellsOf f.type))=V (d',ps')/\parts[k]?=V d':=by
 cases fuel with
 |zero=>simp[J]at h
 |succ fuel =>
  simp only[J,ht]at h;split at h
  ·rename_i hl
   obtain⟨xs,hm,he⟩:=Option.map_eq_some_iff.1 h;cases he;refine⟨hl,_,rfl,fun k f hf=>?_⟩;obtain⟨_,hg⟩:=Z6x hm;obtain⟨y,hy1,hy⟩:=hg k f (by rw[Array.getElem?_toList];exact hf);exact⟨fuel,y.1,y.2,hy,by rw[K,hy1];rfl⟩
  ·cases h
end
end Go.Vcg
end
section
namespace Go.Proofs.YtfghidehlnfdiaaGreat
open Go Go.Vcg Go.Trie
namespace Bulk
theorem ZKi{H:Type}(d:DataW H):1<=Rows.uptoBulk d:=by
 cases d with
 |lit l=>cases l<;>simp[Rows.uptoBulk]
 |nil=>simp[Rows.uptoBulk]
 |ptr d=>simp[Rows.uptoBulk]
 |slice elems spare=>simp[Rows.uptoBulk]
 |agg parts=>simp[Rows.uptoBulk]
 |iface t d=>simp[Rows.uptoBulk]
 |map entries=>simp[Rows.uptoBulk]
 |held h=>simp[Rows.uptoBulk]
theorem part_le{H:Type}{d:DataW H}{l:List (DataW H)}(h:d∈l):Rows.uptoBulk d<=Rows.uptoBulkAll l:=by
 induction l with
 |nil=>cases h
 |cons x r ih =>
  simp only[Rows.uptoBulkAll];cases List.mem_cons.1 h with
  |inl e=>subst e;omega
  |inr e=>have:=ih e;omega
theorem length_le{H:Type}(l:List (DataW H)):l.length<=Rows.uptoBulkAll l:=by
 induction l with
 |nil=>simp[Rows.uptoBulkAll]
 |cons x r ih=>have:=ZKi x;simp only[Rows.uptoBulkAll,List.length_cons];omega
theorem slice_elems{H:Type}(elems spare:List (DataW H)):Rows.uptoBulkAll elems+1<=Rows.uptoBulk (.slice elems spare):=by
 simp only[Rows.uptoBulk];omega
theorem agg_parts{H:Type}(parts:List (DataW H)):Rows.uptoBulkAll parts+1<=Rows.uptoBulk (.agg parts):=by
 simp only[Rows.uptoBulk];omega
theorem bound{H:Type}{l:List (DataW H)}(hk:Rows.uptoSmall H l=true):Rows.uptoBulkAll l<=1048576:=of_decide_eq_true hk
end Bulk
section
variable{H:Type}{enc:L×Value->H}{W:E}{sp:Nat->Bool}{held:Bool}{base:Nat}
theorem Z6V{fuel:Nat}{v:Value}{d:DataW H}{ps:List F}(h:J enc Q W base sp held fuel 23 [v]=V (d,ps)) :
  ∃o c bs,v=.slice o bs.length c/\bs.length<=c/\RdB W o bs/\bs.length<=Rows.uptoBulk d:=by
 obtain⟨o,c,bs,rfl,h1,h2,h3⟩:=ZFj ZW Z24 (by kernel_rfl) h;refine⟨o,c,bs,rfl,h1,h3,?_⟩;obtain⟨o',l',c',hv,_,_,h4⟩:=ZDp ZW (by kernel_rfl) h;cases hv;rcases h4 with⟨h5,_⟩|⟨elems,spare,rfl,h5,_⟩
 ·rw[h5];omega
 ·rw[<-h5]
  have h6:=Bulk.length_le elems;have h7:=Bulk.slice_elems elems spare;omega
theorem ZGy{fuel:Nat}{t e:L}{fs:Array A}{f0 f1:A}{v:Value}{d:DataW H}{ps:List F}(ht:Tryz.prog.underlying t=V (.slice e))(hce:Tryz.prog.cellsOf e=2)(he:Tryz.prog.underlying e=V (.struct fs))
  (h0:fs[0]?=V f0) (h1:fs[1]?=V f1) (t0:f0.type=23) (t1:f1.type=23) (o0:f0.offset=0) (o1:f1.offset=1) (h:J enc Q W base sp held fuel t [v]=V (d,ps)) :
  ∃o c l,v=.slice o l.length c/\l.length<=c/\StR W o l/\∀x∈l,x.1.length<=Rows.uptoBulk d/\x.2.length<=Rows.uptoBulk d:=by
 obtain⟨o,l,c,rfl,hlc,h4⟩:=Z7K ht hce (by omega) h;rcases h4 with⟨rfl,rfl⟩|⟨elems,spare,rfl,h5,h6⟩
 ·exact⟨o,c,[],rfl,hlc,fun j hj=>absurd hj (by simp),fun x hx=>by cases hx⟩
 ·have hx:∀i,∃x:By×By,i<l->(∃b f ok kk ov kv,o=V ⟨b,f,B⟩/\b<W.heap.size/\W.cell? ⟨b,f+i*2,B⟩=V (.slice ok x.1.length kk)/\RdB W ok x.1/\W.cell? ⟨b,f+(i*2+1),B⟩=V (.slice ov x.2.length kv)/\RdB W ov x.2)/\x.1.length<=Rows.uptoBulk (.slice elems spare)/\x.2.length<=Rows.uptoBulk (.slice elems spare):=fun i=>by
    by_cases hi:i<l
    ·obtain⟨b,f,us,d',ps',fuel',ho,hb,hl,hg,hd,hel⟩:=h6 i hi
     obtain⟨_,parts,rfl,hf⟩:=ZAg he hd
     obtain⟨u0,u1,rfl⟩:∃u0 u1,us=[u0,u1]:=by
      rcases us with _|⟨a,_|⟨b,_|⟨c,r⟩⟩⟩<;>simp at hl ⊢
     obtain⟨fa,da,pa,ha,hpa⟩:=hf 0 f0 h0;obtain⟨fb,db,pb,hb',hpb⟩:=hf 1 f1 h1;rw[t0,o0,show Tryz.prog.cellsOf 23=1 from by kernel_rfl]at ha;rw[t1,o1,show Tryz.prog.cellsOf 23=1 from by kernel_rfl]at hb';obtain⟨ok,kk,key,rfl,_,hrk,hlk⟩:=Z6V ha;obtain⟨ov,kv,val,rfl,_,hrv,hlv⟩:=Z6V hb';have p1:=Bulk.part_le (I hpa);have p2:=Bulk.part_le (I hpb);have p3:=Bulk.agg_parts parts;have p4:=Bulk.part_le (I hel);have p5:=Bulk.slice_elems elems spare;exact⟨(key,val),fun _=>⟨⟨b,f,ok,kk,ov,kv,ho,hb,hg 0 _ rfl,hrk,hg 1 _ rfl,hrv⟩,by show key.length<=_;omega,by show val.length<=_;omega⟩⟩
    ·exact⟨([],[]),fun h=>(hi h).elim⟩
  have hl:((O l).map (fun i=>G (hx i))).length=l:=by simp
  refine⟨o,c,(O l).map (fun i=>G (hx i)),by rw[hl],by rw[hl];exact hlc,fun j hj=>?_,fun x hxm=>?_⟩
  ·have hjl:j<l:=by rw[<-hl];exact hj
   have:=(Y (hx j) hjl).1;simp only[D,M];exact this
  ·obtain⟨i,hi,rfl⟩:=List.mem_map.1 hxm
   exact(Y (hx i) (List.mem_range.1 hi)).2
end
end Go.Proofs.YtfghidehlnfdiaaGreat
end
section
namespace Go.Proofs.YtfghidehlnfdiaaGreat
open Go Go.Vcg Go.Trie Go.Proofs.YtfghidehlnfdiaaGreat
theorem Z4r{f:Nat->Int}(hf:∀i,i<32->(Lit.int .u8 (f i)).wf=true):∃h:By,h.length=32/\ZR 32 (fun i=>Value.int .u8 (f i))=hashA h:=by
 have h1:∀i,∃x:UInt8,i<32->f i=(x.toNat:Int):=fun i=>by
  by_cases hi:i<32
  ·have h2:=hf i hi
   have h3:0<=f i/\f i<256:=by
    simp only[Lit.wf,Bool.and_eq_true,decide_eq_true_eq]at h2;have h5:IntKind.min .u8=0:=by decide
    have h6:IntKind.max .u8=255:=by decide
    omega
   exact⟨UInt8.ofNat (f i).toNat,fun _=>by rw[UInt8.toNat_ofNat'];omega⟩
  ·exact⟨0,fun h=>(hi h).elim⟩
 refine⟨(O 32).map (fun i=>G (h1 i)),by simp,?_⟩;unfold hashA;refine ZH (fun i hi=>?_);rw[Y (h1 i) hi];simp[bV,List.getD_eq_getElem?_getD,hi]
section
variable{H:Type}{enc:L×Value->H}{W:E}{sp:Nat->Bool}{held:Bool}{base:Nat}
end
end Go.Proofs.YtfghidehlnfdiaaGreat
end
section
namespace Go.Proofs.YtfghidehlnfdiaaGreat
open Go Go.Vcg Go.Trie
theorem ZIU{H:Type}{enc:L×Value->H}{W:E}{sp:Nat->Bool}{held:Bool}{base:Nat}{fuel:Nat}{v:Value}{d:DataW H}{ps:List F}(h:J enc Q W base sp held fuel 22 [v]=V (d,ps)) :
  ∃o c l,v=.slice o l.length c/\l.length<=c/\StR W o l:=by
 obtain⟨o,c,l,h1,h2,h3,_⟩:=ZGy Z8h (by kernel_rfl) Tryz.underlying53 rfl rfl rfl rfl rfl rfl h;exact⟨o,c,l,h1,h2,h3⟩
section
variable{H:Type}{enc:L×Value->H}{W:E}{sp:Nat->Bool}{held:Bool}{base:Nat}
theorem ZHa{fuel:Nat}{us:List Value}{d:DataW H}{ps:List F}(h:J enc Q W base sp held fuel 27 us=V (d,ps)):∃g:By,g.length=32/\us=g.map bV:=by
 cases fuel with
 |zero=>simp[J]at h
 |succ fuel =>
  have hu:Tryz.prog.underlying 27=V (.array 32 5):=Z48;have c5:Tryz.prog.cellsOf 5=1:=by kernel_rfl
  have c27:Tryz.prog.cellsOf 27=32:=by kernel_rfl
  simp only[J,hu]at h;rw[c27,c5]at h;split at h
  ·rename_i hl
   obtain⟨ys,hy,_⟩:=Option.map_eq_some_iff.1 h
   have hx:∀i,∃x:UInt8,i<32->us[i]?=V (bV x):=fun i=>by
    by_cases hi:i<32
    ·obtain⟨y,h1⟩:=Z6w hy i (List.mem_range.2 hi)
     rw[Nat.mul_one,U (by omega),S,R]at h1;obtain⟨x,hx⟩:=ZHb (e:=5) Z24 h1;exact⟨x,fun _=>by rw[X (by omega),hx]⟩
    ·exact⟨0,fun h=>(hi h).elim⟩
   refine⟨(O 32).map (fun i=>G (hx i)),by simp,?_⟩;apply List.ext_getElem?;intro i;by_cases hi:i<32
   ·rw[Y (hx i) hi,List.map_map,K,Z hi];rfl
   ·rw[T (by omega),T (by simp;omega)]
  ·cases h
theorem ZFX{fuel:Nat}{v:Value}{d:DataW H}{ps:List F}(h:J enc Q W base sp held fuel 34 [v]=V (d,ps)) :
  ∃o c l,v=.slice o l.length c/\l.length<=c/\Z1V W (fun _=>0) 0 l o l.length:=by
 obtain⟨o,l,c,rfl,hlc,h4⟩:=Z7K (n:=33) Z8i (by kernel_rfl) (by decide) h;rcases h4 with⟨rfl,rfl⟩|⟨elems,spare,rfl,h5,h6⟩
 ·exact⟨o,c,[],rfl,hlc,Z1V.nil _ _ _ _⟩
 ·have hx:∀i,∃x:By×By,i<l->x.1.length=32/\∃b f ob kb,o=V ⟨b,f,B⟩/\b<W.heap.size/\(∀j,j<32->W.cell? ⟨b,f+(i*33+j),B⟩=V (bV (x.1.getD j 0)))/\W.cell? ⟨b,f+(i*33+32),B⟩=V (.slice ob x.2.length kb)/\RdB W ob x.2/\x.2.length<=kb:=fun i=>by
    by_cases hi:i<l
    ·obtain⟨b,f,us,d',ps',fuel',ho,hb,hl,hg,hd,hel⟩:=h6 i hi
     obtain⟨_,parts,rfl,hf⟩:=ZAg Tryz.underlying48 hd;obtain⟨fa,da,pa,ha,_⟩:=hf 0 _ rfl;obtain⟨fb,db,pb,hb',_⟩:=hf 1 _ rfl;have ha':J enc Q W base sp held fa 27 ((us.drop 0).take (Tryz.prog.cellsOf 27))=V (da,pa):=ha;rw[show Tryz.prog.cellsOf 27=32 from by kernel_rfl,List.drop_zero]at ha';obtain⟨g,hg32,hgu⟩:=ZHa ha'
     have e2:(us.drop 32).take (Tryz.prog.cellsOf 23)=[us[32]'(by omega)]:=by
      rw[show Tryz.prog.cellsOf 23=1 from by kernel_rfl,U (by omega),S,R]
     have hb'':J enc Q W base sp held fb 23 ((us.drop 32).take (Tryz.prog.cellsOf 23))=V (db,pb):=hb';rw[e2]at hb'';obtain⟨ob,kb,x,hv,h1,h2,_⟩:=Z6V hb'';refine⟨(g,x),fun _=>⟨hg32,b,f,ob,kb,ho,hb,fun j hj=>?_,?_,h2,h1⟩⟩
     ·rw[<-Nat.add_assoc]
      refine hg j _ ?_;have:(us.take 32)[j]?=us[j]?:=by rw[List.getElem?_take,if_pos hj]
      rw[<-this,hgu];exact Z5o (by omega)
     ·rw[<-Nat.add_assoc]
      refine hg 32 _ ?_;rw[X (by omega),hv]
    ·exact⟨([],[]),fun h=>(hi h).elim⟩
  have hl:((O l).map (fun i=>G (hx i))).length=l:=by simp
  refine⟨o,c,(O l).map (fun i=>G (hx i)),by rw[hl],by rw[hl];exact hlc,rfl,?_⟩;by_cases hl0:l=0
  ·subst hl0
   exact⟨[],ZBZ.nil _ _ _ _,Z0S.nil _ _ _⟩
  obtain⟨_,b,f,_,_,ho,hb,_⟩:=Y (hx 0) (by omega)
  have all:∀i,i<l->(G (hx i)).1.length=32/\∃ob kb,(∀j,j<32->W.cell? ⟨b,f+(i*33+j),B⟩=V (bV ((G (hx i)).1.getD j 0)))/\W.cell? ⟨b,f+(i*33+32),B⟩=V (.slice ob (G (hx i)).2.length kb)/\RdB W ob (G (hx i)).2/\(G (hx i)).2.length<=kb:=fun i hi=>by
   obtain⟨q0,b',f',ob,kb,q1,_,q2⟩:=Y (hx i) hi;rw[ho]at q1;cases q1;exact⟨q0,ob,kb,q2⟩
  have cell:∀i,i<l*33->∃u,W.cell? ⟨b,f+i,B⟩=V u:=fun i hi=>by
   have q:=all (i/33) (by omega);generalize G (hx (i/33))=z at q;obtain⟨_,ob,kb,q2,q3,_⟩:=q;by_cases h32:i%33<32
   ·have:=q2 _ h32
    rw[show i/33*33+i%33=i by omega]at this;exact⟨_,this⟩
   ·rw[show i/33*33+32=i by omega]at q3
    exact⟨_,q3⟩
  have get:∀i u,i<l*33->W.cell? ⟨b,f+i,B⟩=V u->((O (l*33)).map (fun i=>(W.cell? ⟨b,f+i,B⟩).getD undef))[i]?=V u:=fun i u hi hu=>by
   rw[K,Z hi,Option.map_some,hu];rfl
  refine⟨(O (l*33)).map (fun i=>(W.cell? ⟨b,f+i,B⟩).getD undef),fun j v hv=>?_,by simp,fun j hj=>?_⟩
  ·have hj:j<l*33:=by
     have:=(List.getElem?_eq_some_iff.1 hv).1;simpa using this
   obtain⟨u,hu⟩:=cell j hj;rw[get j u hj hu]at hv;cases hv;exact⟨b,f,ho,hb,rfl,hu⟩
  ·have hjl:j<l:=by rw[<-hl];exact hj
   simp only[D,M];obtain⟨q0,ob,kb,q2,q3,q4,q5⟩:=all j hjl;exact⟨q0,fun i hi=>get _ _ (by omega) (q2 i hi),ob,kb,get _ _ (by omega) q3,⟨q4,fun _ _ _=>rfl⟩,q5⟩
end
end Go.Proofs.YtfghidehlnfdiaaGreat
end
