/- Contracts: packed paths; what two paths share. -/
/- Contracts: bytes held against one another; heads of items. -/
/- Contracts: items in memory, and as bytes. -/
/- Contracts: an item's size; its encoding. -/
/- Tries as plain Lean: a node's item, its bytes, its reference; how big they get. -/
/- Tries as plain Lean: bounds. -/
/- Decoding: plain Lean. -/
/- Nodes in memory. -/
/- Contracts: a node that is in sight; a leaf laid into a new branch. -/
/- Contracts: a node behind nibbles. -/
/- Contracts: items of nodes. -/
/- Rows of items that grow; a branch's item. -/
/- Nodes in memory under other labels; contracts: Get. -/
/- Contracts: put. -/
import Derived.Test.YtfghidehlnfdiaaGreatTP1
set_option linter.unusedVariables false
set_option linter.unusedSimpArgs false
section
namespace Go.Trie
theorem pairs_snoc:∀(n:Nat) (x:By) (a b:UInt8),x.length=2 * n→pairs (x++[a,b])=pairs x++[a <<< 4 ||| b]
 | 0,[],a,b,_=>rfl
 | 0,_ :: _,a,b,h=>by simp at h
 | n+1,[],a,b,h=>by simp at h
 | n+1,[_],a,b,h=>by simp at h; omega
 | n+1,c :: d :: r,a,b,h=>by
   have:=pairs_snoc n r a b (by simp at h; omega)
   show pairs (c :: d :: (r++[a,b]))=pairs (c :: d :: r)++_
   simp only [pairs,this,List.cons_append]
theorem pairs_len:∀(n:Nat) (x:By),x.length=2 * n→(pairs x).length=n
 | 0,[],_=>rfl
 | 0,_ :: _,h=>by simp at h
 | n+1,[],h=>by simp at h
 | n+1,[_],h=>by simp at h; omega
 | n+1,c :: d :: r,h=>by
   simp only [pairs,List.length_cons,pairs_len n r (by simp at h; omega)]
def headOf (p:By) (leaf:Bool):By:=if p.length % 2=1 then [flagOf leaf+1] else [flagOf leaf,0]
theorem headed_eq (p:By) (leaf:Bool):headed p leaf=headOf p leaf++p:=by
 unfold headed headOf; split <;> rfl
theorem headed_even (p:By) (leaf:Bool):∃n,(headed p leaf).length=2 * n:=by
 unfold headed
 split
 ·rename_i h; exact ⟨(p.length+1) / 2,by rw [List.length_cons]; omega⟩
 ·rename_i h; exact ⟨(p.length+2) / 2,by rw [List.length_cons,List.length_cons]; omega⟩
theorem shared_take_add:∀(n:Nat) (p q:By),p.take n=q.take n→n≤p.length→n≤q.length→n≤shared p q
 | 0,p,q,_,_,_=>Nat.zero_le _
 | n+1,a :: p,b :: q,h,h1,h2=>by
   simp only [List.take_succ_cons,List.cons.injEq] at h
   have:=shared_take_add n p q h.2 (by simp at h1; omega) (by simp at h2; omega)
   simp only [shared,if_pos h.1]; omega
 | n+1,[],q,_,h,_=>by simp at h
 | n+1,_ :: _,[],_,_,h=>by simp at h
theorem shared_eq {n:Nat} {p q:By} (h:p.take n=q.take n) (h1:n≤p.length) (h2:n≤q.length) (h3:n=p.length∨n=q.length∨∃(x:n < p.length) (y:n < q.length),p[n]≠q[n]):shared p q=n:=by
 have ge:=shared_take_add n p q h h1 h2
 obtain ⟨l1,l2⟩:=shared_le p q
 rcases h3 with rfl | rfl | ⟨x,y,hne⟩
 ·omega
 ·omega
 ·by_cases hlt:n < shared p q
  ·have ht:=shared_take p q
   have e1:(p.take (shared p q))[n]?=(q.take (shared p q))[n]?:=by rw [ht]
   rw [List.getElem?_take,List.getElem?_take,if_pos hlt,if_pos hlt,List.getElem?_eq_getElem x,List.getElem?_eq_getElem y] at e1
   exact (hne (Option.some.inj e1)).elim
  ·omega
end Go.Trie
namespace Go.Proofs.YtfghidehlnfdiaaGreat
open Go Go.Vcg Go.Trie
theorem maxOf_calls {w:World} {o:Option Addr} {k:Nat} {bs:List UInt8} (hr:RdB w o bs) (hl:bs.length≤2 ^ 30) :
 Calls Tryz.prog trie_maxOf.n #[.slice o bs.length k] w (fun e w'=>w'=w∧∃n,e=.returned (.int .u8 n)∧(n≥16↔∃x∈bs,x≥16)):=by
 refine trie_maxOf.vc _ _ _ _ _ ?_
 unfold trie_maxOf.Vc
 refine ⟨fun n i w'=>∃j:Nat,i=(j:Int)∧j≤bs.length∧w'=w∧(n≥16↔∃x∈bs.take j,x≥16),fun _ i _=>((bs.length:Int) - i).toNat,⟨0,rfl,Nat.zero_le _,rfl,by simp⟩,?_⟩
 rintro n _ _ _ ⟨j,rfl,hj,rfl,hn⟩
 refine ⟨fun hlt=>?_,fun hge=>?_⟩
 ·have hjl:j < bs.length:=by omega
  obtain ⟨b,f,rfl,hb,hc⟩:=rdb_get hr hjl
  have htk:bs.take (j+1)=bs.take j++[bs[j]]:=by rw [List.take_add_one,List.getElem?_eq_getElem hjl]; rfl
  refine ⟨_,rfl,by omega,_,by rw [add_at,Int.toNat_natCast]; exact hc,⟨j+1,by rw [wrap_i64_small (by omega) (by omega)]; omega,hjl,rfl,?_⟩,?_⟩
  ·rw [htk]
   simp only [List.mem_append,List.mem_singleton]
   have hx:((bs[j].toNat:Int)≥16)↔bs[j]≥16:=by
    have:bs[j]≥16↔(16:UInt8).toNat≤bs[j].toNat:=UInt8.le_iff_toNat_le
    rw [this]
    show _↔16≤bs[j].toNat
    omega
   constructor
   ·intro h
    by_cases h1:n≥16
    ·obtain ⟨x,hx1,hx2⟩:=hn.1 h1
     exact ⟨x,.inl hx1,hx2⟩
    ·exact ⟨_,.inr rfl,hx.1 (by omega)⟩
   ·rintro ⟨x,hx1 | rfl,hx2⟩
    ·have:=hn.2 ⟨x,hx1,hx2⟩; omega
    ·have:=hx.2 hx2; omega
  ·dsimp only
   rw [wrap_i64_small (by omega) (by omega)]; omega
 ·obtain rfl:j=bs.length:=by omega
  rw [List.take_length] at hn
  exact ⟨rfl,n,rfl,hn⟩
theorem shl4 (a:UInt8):IntKind.wrap .u8 ((a.toNat:Int) * 16)=((a <<< 4).toNat:Int):=by
 have:∀n:Fin 256,IntKind.wrap .u8 (((UInt8.ofFin n).toNat:Int) * 16)=((UInt8.ofFin n <<< 4).toNat:Int):=by decide +kernel
 exact this a.toFin
theorem fresh_blk (w:World) (cs:List UInt8) (A:Array Value) (hA:A.toList=cs.map bV) (hl:cs.length≤maxLen):Fresh w (w.alloc (.cells A 5)) tU8 1 (some ⟨w.heap.size,0,none⟩) cs.length cs.length (cs.map bV):=by
 have hs:A.size=cs.length:=by rw [← Array.length_toList,hA,List.length_map]
 refine ⟨⟨by simp,.inr ⟨_,A,rfl,Blk.new w 5 A,Nat.le_refl _,hl,by omega,?_⟩⟩,Mod.alloc _ _,fun k hk=>by obtain ⟨d,hd,rfl⟩:=hk; cases hd; exact Nat.le_refl _⟩
 rw [hA,List.take_of_length_le (by rw [List.length_map]; omega)]
theorem Fresh.from_ {w w0 w1:World} {e:TypeId} {sz:Nat} {o:Option Addr} {l c:Nat} {xs:List Value} (h:Fresh w0 w1 e sz o l c xs) (M:Vcg.Mod NoB w w0):Fresh w w1 e sz o l c xs :=
 ⟨h.own,M.trans h.mod (fun _ _ h=>h),fun k hk=>Nat.le_trans M.size (h.new k hk)⟩
theorem Pack_calls {w:World} {o:Option Addr} {k:Nat} {bs:List UInt8} (hr:RdB w o bs) (hl:bs.length≤2 ^ 30) (leaf:Bool) :
 Calls Tryz.prog trie_Pack.n #[.slice o bs.length k,.bool leaf] w (fun e w'=>∃o' k',e=.returned (.tuple #[.slice o' (pack bs leaf).1.length k',.int .i64 (pack bs leaf).2])∧Fresh w w' tU8 1 o' (pack bs leaf).1.length k' ((pack bs leaf).1.map bV)):=by
 refine calls_gen fun R hR=>trie_Pack.vc _ _ _ _ _ _ ?_
 unfold trie_Pack.Vc
 have bad:packBad bs→R (.returned (.tuple #[.slice none 0 0,.int .i64 140])) w:=fun h=>by
  refine hR _ _ ⟨none,0,?_,?_⟩
  ·unfold pack; rw [if_pos h]; rfl
  ·unfold pack; rw [if_pos h]; exact Fresh.nil (Mod.refl w) _ _
 refine ⟨fun h=>bad (.inl (by omega)),fun h128=>?_⟩
 refine (maxOf_calls hr hl).mono ?_
 rintro _ w1 ⟨rfl,n,rfl,hn⟩
 refine ⟨_,rfl,fun h=>bad (.inr (hn.1 h)),fun h16=>?_⟩
 have hgood:¬packBad bs:=by
  rintro (h | h)
  ·omega
  ·exact h16 (hn.2 h)
 have hpk:pack bs leaf=(pairs (headed bs leaf),0):=by unfold pack; rw [if_neg hgood]
 rw [hpk] at hR
 refine ⟨fun m w'=>m=((flagOf leaf).toNat:Int)∧w'=w1,⟨fun h=>⟨by rw [h]; rfl,rfl⟩,fun h=>⟨by rw [h]; rfl,rfl⟩⟩,?_⟩
 rintro _ _ w7 ⟨rfl,rfl⟩
 rintro d8 w9 ⟨rfl,rfl⟩
 have hho:(headOf bs leaf).length≤2:=by unfold headOf; split <;> simp
 refine ⟨fun o' l' k' w'=>∃k0,k'=k0∧l'=(headOf bs leaf).length∧Fresh w7 w' tU8 1 o' l' k' ((headOf bs leaf).map bV),⟨fun hodd=>?_,fun hev=>?_⟩,?_⟩
 ·rintro d11 w12 ⟨rfl,rfl⟩
  have ho:bs.length % 2=1:=by
   have:Int.tmod ((bs.length:Nat):Int) 2=((bs.length % 2:Nat):Int):=rfl
   omega
  have e:headOf bs leaf=[flagOf leaf+1]:=by unfold headOf; rw [if_pos ho]
  rw [e]
  have hw:IntKind.wrap .u8 (((flagOf leaf).toNat:Int)+1)=((flagOf leaf+1).toNat:Int):=by cases leaf <;> decide
  rw [hw]
  exact ⟨_,rfl,rfl,Fresh.from_ (fresh_blk _ [flagOf leaf+1] _ rfl (by simp [maxLen])) (Mod.alloc _ _)⟩
 ·have ho:¬bs.length % 2=1:=by
   have:Int.tmod ((bs.length:Nat):Int) 2=((bs.length % 2:Nat):Int):=rfl
   omega
  have e:headOf bs leaf=[flagOf leaf,0]:=by unfold headOf; rw [if_neg ho]
  rw [e]
  exact ⟨_,rfl,rfl,fresh_blk _ [flagOf leaf,0] _ rfl (by simp [maxLen])⟩
 ·rintro o13 _ _ _ w14 ⟨c13,rfl,rfl,F14⟩
  obtain ⟨o16,k16,w16,hr16,F16⟩:=push_bytes (ty:=tSlU8) (k2:=k) F14 (hr.mod' F14.mod) (by omega)
  rw [← headed_eq] at F16
  have hlh:(headOf bs leaf).length+bs.length=(headed bs leaf).length:=by rw [headed_eq,List.length_append]
  rw [hlh] at hr16 F16
  refine ⟨_,w16,hr16,_,_,_,rfl,?_⟩
  obtain ⟨N,hN⟩:=headed_even bs leaf
  have hrh:=fresh_bytes F16
  generalize headed bs leaf=H at *
  refine ⟨fun o' l' k' i w'=>∃j:Nat,i=((2 * j:Nat):Int)∧j≤N∧l'=(pairs (H.take (2 * j))).length∧Fresh w16 w' tU8 1 o' l' k' ((pairs (H.take (2 * j))).map bV),fun _ _ _ i _=>((H.length:Int) - i).toNat,
   ⟨0,rfl,Nat.zero_le _,rfl,Fresh.nil (Mod.refl w16) _ _⟩,?_⟩
  rintro o' _ k' _ _ w23 ⟨j,rfl,hj,rfl,F⟩
  refine ⟨fun hlt=>?_,fun hge=>?_⟩
  ·rintro _ rfl
   have h1:2 * j < H.length:=by omega
   have h2:2 * j+1 < H.length:=by omega
   have F24:=F.mod' (Mod.drew (S:=NoB) w23)
   obtain ⟨b,f,rfl,hb,hc1⟩:=rdb_get hrh h1
   obtain ⟨b',f',hb',_,hc2⟩:=rdb_get hrh h2
   cases hb'
   have e1:IntKind.wrap .i64 (((2 * j:Nat):Int)+1)=((2 * j+1:Nat):Int):=by rw [wrap_i64_small (by omega) (by omega)]; omega
   have e2:IntKind.wrap .i64 (((2 * j:Nat):Int)+2)=((2 * (j+1):Nat):Int):=by rw [wrap_i64_small (by omega) (by omega)]; omega
   rw [e1,e2]
   refine ⟨_,rfl,by omega,_,by rw [add_at,Int.toNat_natCast]; exact (cell_mod F24.mod hb (fun h=>h)).trans hc1,_,rfl,by omega,_,by rw [add_at,Int.toNat_natCast]; exact (cell_mod F24.mod hb (fun h=>h)).trans hc2,?_⟩
   rw [shl4,bitsI_or_u8]
   rintro d29 w30 ⟨rfl,rfl⟩
   have htk:H.take (2 * (j+1))=H.take (2 * j)++[H[2 * j],H[2 * j+1]]:=by
    rw [show 2 * (j+1)=2 * j+1+1 by omega,List.take_add_one,List.take_add_one,List.getElem?_eq_getElem h1,List.getElem?_eq_getElem h2,List.append_assoc]; rfl
   have htl:(H.take (2 * j)).length=2 * j:=by rw [List.length_take]; omega
   have hps:=pairs_snoc j (H.take (2 * j)) H[2 * j] H[2 * j+1] htl
   have hpl:=pairs_len j (H.take (2 * j)) htl
   have one:RdB (w23.drew.alloc (.cells #[.int .u8 ((H[2 * j] <<< 4 ||| H[2 * j+1]).toNat:Int)] 5)) (some ⟨w23.drew.heap.size,0,none⟩) [H[2 * j] <<< 4 ||| H[2 * j+1]] :=
    RdB.of_blk (Blk.new w23.drew 5 #[bV (H[2 * j] <<< 4 ||| H[2 * j+1])]) (fun i hi=>by
     obtain rfl:i=0:=by simpa using hi
     rfl)
   obtain ⟨o31,k31,w31,hr31,F31⟩:=push_bytes (ty:=tSlU8) (k2:=1) (F24.mod' (Mod.alloc _ _)) one (by simp; omega)
   refine ⟨_,w31,hr31,_,_,_,rfl,⟨j+1,rfl,by omega,?_,?_⟩,by dsimp only; omega⟩
   ·rw [htk,hps,List.length_append]
   ·rw [htk,hps]; exact F31
  ·obtain rfl:j=N:=by omega
   rw [List.take_of_length_le (by omega)] at F ⊢
   exact hR _ _ ⟨_,_,rfl,Fresh.from_ F F16.mod⟩
end Go.Proofs.YtfghidehlnfdiaaGreat
end
section
namespace Go.Trie
def digitsF:Nat→Nat→By
 | 0,_=>[]
 | f+1,n=>if n=0 then [] else digitsF f (n / 256)++[UInt8.ofNat n]
def digits (n:Nat):By:=digitsF 8 n
def head (n base:Nat):By:=if n≤55 then [UInt8.ofNat (base+n)] else UInt8.ofNat (base+55+(digits n).length) :: digits n
def own:By→Bool
 | [a]=>decide (a < 128)
 | _=>false
mutual
def enc:It→By
 | .s b=>if own b then b else head b.length 128++b
 | .l xs=>head (encs xs).length 192++encs xs
def encs:List It→By
 | []=>[]
 | x :: r=>enc x++encs r
end
theorem digitsF_le:∀(f n:Nat),(digitsF f n).length≤f
 | 0,_=>by simp [digitsF]
 | f+1,n=>by
   have:=digitsF_le f (n / 256)
   simp only [digitsF]
   split
   ·simp
   ·rw [List.length_append]; simp; omega
theorem digits_le (n:Nat):(digits n).length≤8:=digitsF_le 8 n
end Go.Trie
namespace Go.Proofs.YtfghidehlnfdiaaGreat
open Go Go.Vcg Go.Trie
theorem und_u8:Tryz.prog.underlying 5=some (.int .u8):=by kernel_rfl
theorem und_str:Tryz.prog.underlying 9=some .string:=by kernel_rfl
theorem Equal_calls {w:World} {o1 o2:Option Addr} {k1 k2:Nat} {a b:List UInt8} (h1:RdB w o1 a) (h2:RdB w o2 b) :
 Calls Tryz.prog bytes_Equal.n #[.slice o1 a.length k1,.slice o2 b.length k2] w (fun e w'=>e=.returned (.bool (decide (a=b)))∧w'=w):=by
 refine bytes_Equal.vc _ _ _ _ _ _ _ _ ?_
 unfold bytes_Equal.Vc
 refine ⟨_,run_toStr und_slU8 und_u8 und_str h1,_,rfl,_,run_toStr und_slU8 und_u8 und_str h2,_,rfl,?_,rfl⟩
 rw [strB_strOf]
theorem HasPrefix_calls {w:World} {o1 o2:Option Addr} {k1 k2:Nat} {a b:List UInt8} (h1:RdB w o1 a) (hk:a.length≤k1) (h2:RdB w o2 b) :
 Calls Tryz.prog bytes_HasPrefix.n #[.slice o1 a.length k1,.slice o2 b.length k2] w (fun e w'=>e=.returned (.bool (b.isPrefixOf a))∧w'=w):=by
 refine bytes_HasPrefix.vc _ _ _ _ _ _ _ _ ?_
 unfold bytes_HasPrefix.Vc
 refine ⟨fun hge=>⟨by omega,?_⟩,fun hlt=>⟨?_,rfl⟩⟩
 ·rw [Int.toNat_natCast]
  have hl:(a.take b.length).length=b.length:=by rw [List.length_take]; omega
  have hc:=Equal_calls (k1:=k1) (k2:=k2) (h1.take b.length) h2
  rw [hl] at hc
  refine hc.mono ?_
  rintro _ w' ⟨rfl,rfl⟩
  refine ⟨_,rfl,?_,rfl⟩
  congr 2
  rw [Bool.eq_iff_iff,decide_eq_true_eq,List.isPrefixOf_iff_prefix,List.prefix_iff_eq_take]
  exact ⟨fun h=>h.symm,fun h=>h.symm⟩
 ·congr 2
  symm
  rw [Bool.eq_false_iff]
  intro h
  have:=(List.isPrefixOf_iff_prefix.1 h).length_le
  omega
theorem own_calls {w:World} {o:Option Addr} {k:Nat} {b:List UInt8} (h:RdB w o b) :
 Calls Tryz.prog rlp_own.n #[.slice o b.length k] w (fun e w'=>e=.returned (.bool (own b))∧w'=w):=by
 refine rlp_own.vc _ _ _ _ _ ?_
 unfold rlp_own.Vc
 refine ⟨fun h1=>?_,fun h1=>⟨?_,rfl⟩⟩
 ·obtain ⟨a,rfl⟩:∃a,b=[a]:=List.length_eq_one_iff.1 (by omega)
  obtain ⟨B,f,rfl,hB,hc⟩:=rdb_get h (i:=0) (by simp)
  have h2:a < 128↔a.toNat < 128:=by
   have:∀n:Fin 256,(UInt8.ofFin n < 128↔(UInt8.ofFin n).toNat < 128):=by decide +kernel
   exact this a.toFin
  have h3:decide ((a.toNat:Int) < 128)=own [a]:=by
   show _=decide (a < 128)
   rw [Bool.eq_iff_iff,decide_eq_true_eq,decide_eq_true_eq,h2]
   omega
  rw [← h3]
  exact ⟨_,rfl,by omega,_,by rw [add_at]; exact hc,rfl,rfl⟩
 ·have:own b=false:=by
   unfold own
   split
   ·simp at h1
   ·rfl
  rw [this]
theorem one_byte (w:World) (a:UInt8) {n:Int} (hn:n=(a.toNat:Int)):Fresh w (w.alloc (.cells #[.int .u8 n] 5)) tU8 1 (some ⟨w.heap.size,0,none⟩) 1 1 ([a].map bV):=by
 subst hn
 exact fresh_blk w [a] #[bV a] rfl (by simp [maxLen])
theorem wrap_u8_nat (n:Nat):IntKind.wrap .u8 (n:Int)=((UInt8.ofNat n).toNat:Int):=by
 rw [UInt8.toNat_ofNat']
 show (n:Int) % 256=_
 omega
theorem digits_calls {w:World} (N:Nat) (hN:N < 2 ^ 63) :
 Calls Tryz.prog rlp_digits.n #[.int .u64 (N:Int)] w (fun e w'=>∃o k,e=.returned (.slice o (digits N).length k)∧Fresh w w' tU8 1 o (digits N).length k ((digits N).map bV)):=by
 refine rlp_digits.vc _ _ _ ?_
 unfold rlp_digits.Vc
 refine ⟨fun n o l k w'=>∃(f m:Nat) (row:By),n=(m:Int)∧m < 256 ^ f∧f≤8∧digits N=digitsF f m++row∧l=row.length∧Fresh w w' tU8 1 o l k (row.map bV),fun n _ _ _ _=>n.toNat,
  ⟨8,N,[],rfl,by omega,Nat.le_refl _,by rw [List.append_nil]; rfl,rfl,Fresh.nil (Mod.refl w) _ _⟩,?_⟩
 rintro _ o _ k _ w1 ⟨f,m,row,rfl,hm,hf,hd,rfl,F⟩
 have hlen:=digits_le N
 rw [hd,List.length_append] at hlen
 refine ⟨fun hpos=>?_,fun hz=>?_⟩
 ·rintro d w2 ⟨rfl,rfl⟩
  cases f with
  | zero=>simp at hm; omega
  | succ g =>
    have hM:=Mod.alloc (S:=NoB) w1 (.cells #[.int .u8 (IntKind.wrap .u8 (m:Int))] 5)
    have F1:=one_byte w1 (UInt8.ofNat m) (n:=IntKind.wrap .u8 (m:Int)) (wrap_u8_nat m)
    obtain ⟨o3,k3,w3,hr3,F3⟩:=push_bytes (ty:=tSlU8) (k2:=k) F1 ((fresh_bytes F).mod' hM) (by omega)
    have hstep:digitsF (g+1) m=digitsF g (m / 256)++[UInt8.ofNat m]:=by
     simp only [digitsF]; rw [if_neg (by omega)]
    have hfd:Int.fdiv (m:Int) 256=((m / 256:Nat):Int):=by
     rw [Int.fdiv_eq_ediv_of_nonneg _ (by omega)]; omega
    rw [hfd]
    refine ⟨_,w3,hr3,_,_,_,rfl,⟨g,m / 256,UInt8.ofNat m :: row,rfl,?_,by omega,?_,?_,?_⟩,?_⟩
    ·rw [Nat.pow_succ] at hm
     exact Nat.div_lt_of_lt_mul (by rw [Nat.mul_comm]; exact hm)
    ·rw [hd,hstep,List.append_assoc]; rfl
    ·simp; omega
    ·exact Fresh.from_ F3 F.mod
    ·dsimp only; omega
 ·have hm0:m=0:=by omega
  subst hm0
  have h0:digitsF f 0=[]:=by cases f <;> simp [digitsF]
  rw [h0,List.nil_append] at hd
  rw [hd]
  exact ⟨_,_,rfl,F⟩
theorem head_calls {w:World} (n base:Nat) (hn:n < 2 ^ 31) (hb:base≤192) :
 Calls Tryz.prog rlp_head.n #[.int .i64 (n:Int),.int .i64 (base:Int)] w (fun e w'=>∃o k,e=.returned (.slice o (Trie.head n base).length k)∧Fresh w w' tU8 1 o (Trie.head n base).length k ((Trie.head n base).map bV)):=by
 refine rlp_head.vc _ _ _ _ ?_
 unfold rlp_head.Vc
 refine ⟨fun hs=>?_,fun hs=>?_⟩
 ·rintro d w2 ⟨rfl,rfl⟩
  have e:Trie.head n base=[UInt8.ofNat (base+n)]:=by unfold Trie.head; rw [if_pos (by omega)]
  have ew:IntKind.wrap .i64 ((base:Int)+(n:Int))=((base+n:Nat):Int):=by rw [wrap_i64_small (by omega) (by omega)]; omega
  rw [e,ew]
  exact ⟨_,_,rfl,one_byte w _ (wrap_u8_nat _)⟩
 ·have e:Trie.head n base=UInt8.ofNat (base+55+(digits n).length) :: digits n:=by unfold Trie.head; rw [if_neg (by omega)]
  have ew:IntKind.wrap .u64 (n:Int)=(n:Int):=by
   show (n:Int) % 18446744073709551616=_
   omega
  rw [ew]
  refine (digits_calls n (by omega)).mono ?_
  rintro _ w2 ⟨o,k,rfl,F⟩
  have hdl:=digits_le n
  refine ⟨_,_,_,rfl,?_⟩
  rintro d w3 ⟨rfl,rfl⟩
  have ew2:IntKind.wrap .i64 (IntKind.wrap .i64 ((base:Int)+55)+(((digits n).length:Nat):Int))=((base+55+(digits n).length:Nat):Int):=by
   rw [wrap_i64_small (n:=(base:Int)+55) (by omega) (by omega),wrap_i64_small (by omega) (by omega)]; omega
  rw [ew2]
  obtain ⟨o4,k4,w4,hr4,F4⟩:=push_bytes (ty:=tSlU8) (k2:=k) (one_byte w2 _ (wrap_u8_nat (base+55+(digits n).length))) ((fresh_bytes F).mod' (Mod.alloc _ _)) (by omega)
  refine ⟨_,w4,hr4,_,_,_,rfl,o4,k4,?_,?_⟩
  ·rw [e,List.length_cons,Nat.add_comm]
  ·rw [e,List.length_cons,Nat.add_comm]
   exact Fresh.from_ F4 F.mod
end Go.Proofs.YtfghidehlnfdiaaGreat
end
section
namespace Go.Proofs.YtfghidehlnfdiaaGreat
open Go Go.Vcg Go.Trie
abbrev tItem:TypeId:=111
abbrev tSlItem:TypeId:=109
theorem und_slItem:Tryz.prog.underlying tSlItem=some (.slice tItem):=by kernel_rfl
theorem info_item:(Tryz.prog.info? tItem).map (fun i=>(i.zero,i.size,i.bytes))=some (some (.agg #[.bool false,.slice none 0 0,.slice none 0 0]),3,56):=by kernel_rfl
mutual
def ItC (A:Nat→Prop) (w:World):It→Value→Value→Value→Prop
 | .s b,v1,v2,v3=>v1=.bool false∧(∃o c,v2=.slice o b.length c∧RdB w o b∧(b≠[]→∀d,o=some d→¬A d.block))∧v3=.slice none 0 0
 | .l xs,v1,v2,v3=>v1=.bool true∧v2=.slice none 0 0∧∃o c,v3=.slice o xs.length c∧ItsC A w xs o 0∧xs.length≤c
def ItsC (A:Nat→Prop) (w:World):List It→Option Addr→Nat→Prop
 | [],_,_=>True
 | x :: r,o,k=>(∃b f v1 v2 v3,o=some ⟨b,f,none⟩∧b < w.heap.size∧¬A b∧w.cell? ⟨b,f+k * 3,none⟩=some v1∧w.cell? ⟨b,f+k * 3+1,none⟩=some v2∧w.cell? ⟨b,f+k * 3+2,none⟩=some v3∧ItC A w x v1 v2 v3)∧ItsC A w r o (k+1)
end
section
variable {A:Nat→Prop}
mutual
theorem ItC.modA {S:Nat→Prop} {w w':World} (M:Vcg.Mod S w w') (hS:∀b,S b→A b):∀(x:It) {v1 v2 v3:Value},ItC A w x v1 v2 v3→ItC A w' x v1 v2 v3
 | .s b,_,_,_,h=>by
   simp only [ItC] at h ⊢
   obtain ⟨h1,⟨o,c,h2,h3,h5⟩,h4⟩:=h
   refine ⟨h1,⟨o,c,h2,?_,h5⟩,h4⟩
   intro hne
   obtain ⟨d,f,ho,hd,hc⟩:=h3 hne
   exact ⟨d,f,ho,Nat.lt_of_lt_of_le hd M.size,fun i hi=>(cell_mod M hd (fun hh=>h5 hne _ ho (hS _ hh))).trans (hc i hi)⟩
 | .l xs,_,_,_,h=>by
   simp only [ItC] at h ⊢
   obtain ⟨h1,h2,o,c,h3,h4,h5⟩:=h
   exact ⟨h1,h2,o,c,h3,ItsC.modA M hS xs h4,h5⟩
theorem ItsC.modA {S:Nat→Prop} {w w':World} (M:Vcg.Mod S w w') (hS:∀b,S b→A b):∀(xs:List It) {o:Option Addr} {k:Nat},ItsC A w xs o k→ItsC A w' xs o k
 | [],_,_,_=>by simp only [ItsC]
 | x :: r,_,_,h=>by
   simp only [ItsC] at h ⊢
   obtain ⟨⟨b,f,v1,v2,v3,ho,hb,hA,h1,h2,h3,h4⟩,h5⟩:=h
   exact ⟨⟨b,f,v1,v2,v3,ho,Nat.lt_of_lt_of_le hb M.size,hA,(cell_mod M hb (fun h=>hA (hS _ h))).trans h1,(cell_mod M hb (fun h=>hA (hS _ h))).trans h2,(cell_mod M hb (fun h=>hA (hS _ h))).trans h3,ItC.modA M hS x h4⟩,ItsC.modA M hS r h5⟩
end
theorem ItC.mod {w w':World} (M:Vcg.Mod NoB w w') (x:It) {v1 v2 v3:Value} (h:ItC A w x v1 v2 v3):ItC A w' x v1 v2 v3:=ItC.modA M (fun _ h=>h.elim) x h
theorem ItsC.mod {w w':World} (M:Vcg.Mod NoB w w') (xs:List It) {o:Option Addr} {k:Nat} (h:ItsC A w xs o k):ItsC A w' xs o k:=ItsC.modA M (fun _ h=>h.elim) xs h
mutual
theorem ItC.mono {A':Nat→Prop} {w:World} (hA:∀b,A' b→A b):∀(x:It) {v1 v2 v3:Value},ItC A w x v1 v2 v3→ItC A' w x v1 v2 v3
 | .s b,_,_,_,h=>by
   simp only [ItC] at h ⊢
   obtain ⟨h1,⟨o,c,h2,h3,h5⟩,h4⟩:=h
   exact ⟨h1,⟨o,c,h2,h3,fun hne d hd hh=>h5 hne d hd (hA _ hh)⟩,h4⟩
 | .l xs,_,_,_,h=>by
   simp only [ItC] at h ⊢
   obtain ⟨h1,h2,o,c,h3,h4,h5⟩:=h
   exact ⟨h1,h2,o,c,h3,ItsC.mono hA xs h4,h5⟩
theorem ItsC.mono {A':Nat→Prop} {w:World} (hA:∀b,A' b→A b):∀(xs:List It) {o:Option Addr} {k:Nat},ItsC A w xs o k→ItsC A' w xs o k
 | [],_,_,_=>by simp only [ItsC]
 | x :: r,_,_,h=>by
   simp only [ItsC] at h ⊢
   obtain ⟨⟨b,f,v1,v2,v3,ho,hb,hB,h1,h2,h3,h4⟩,h5⟩:=h
   exact ⟨⟨b,f,v1,v2,v3,ho,hb,fun hh=>hB (hA _ hh),h1,h2,h3,ItC.mono hA x h4⟩,ItsC.mono hA r h5⟩
end
theorem ItsC.get {w:World}:∀{xs:List It} {o:Option Addr} {k:Nat},ItsC A w xs o k→∀(j:Nat) (hj:j < xs.length),∃b f v1 v2 v3,o=some ⟨b,f,none⟩∧b < w.heap.size∧w.cell? ⟨b,f+(k+j) * 3,none⟩=some v1∧w.cell? ⟨b,f+(k+j) * 3+1,none⟩=some v2∧w.cell? ⟨b,f+(k+j) * 3+2,none⟩=some v3∧ItC A w xs[j] v1 v2 v3
 | x :: r,o,k,h,0,_=>by
   simp only [ItsC] at h
   obtain ⟨⟨b,f,v1,v2,v3,ho,hb,hB,hr⟩,_⟩:=h
   exact ⟨b,f,v1,v2,v3,ho,hb,hr⟩
 | x :: r,o,k,h,j+1,hj=>by
   simp only [ItsC] at h
   have:=h.2.get j (by simpa using hj)
   rw [show k+1+j=k+(j+1) by omega] at this
   exact this
theorem ItC.vals {w:World} {x:It} {v1 v2 v3:Value} (h:ItC A w x v1 v2 v3):∃b o1 l1 c1 o2 l2 c2,v1=.bool b∧v2=.slice o1 l1 c1∧v3=.slice o2 l2 c2:=by
 cases x with
 | s b =>
   simp only [ItC] at h
   obtain ⟨h1,⟨o,c,h2,h3⟩,h4⟩:=h
   exact ⟨_,_,_,_,_,_,_,h1,h2,h4⟩
 | l xs =>
   simp only [ItC] at h
   obtain ⟨h1,h2,o,c,h3,h4⟩:=h
   exact ⟨_,_,_,_,_,_,_,h1,h2,h3⟩

theorem encs_append:∀(xs ys:List It),encs (xs++ys)=encs xs++encs ys
 | [],ys=>by simp only [encs,List.nil_append]
 | x :: r,ys=>by simp only [encs,List.cons_append,encs_append r ys,List.append_assoc]
theorem encs_take_le (xs:List It) (j:Nat):(encs (xs.take j)).length≤(encs xs).length:=by
 have:=congrArg List.length (congrArg encs (List.take_append_drop j xs))
 rw [encs_append,List.length_append] at this
 omega
theorem head_len (n b:Nat):1≤(Trie.head n b).length∧(Trie.head n b).length≤9:=by
 have:=digits_le n
 unfold Trie.head
 split <;> simp <;> omega
theorem put_calls:∀(x:It) {w:World} {b:Bool} {o1:Option Addr} {l1 c1:Nat} {o2:Option Addr} {l2 c2:Nat},ItC A w x (.bool b) (.slice o1 l1 c1) (.slice o2 l2 c2)→(enc x).length≤2 ^ 20 →
 Calls Tryz.prog rlp_put.n #[.agg #[.bool b,.slice o1 l1 c1,.slice o2 l2 c2]] w (fun e w'=>∃o k,e=.returned (.slice o (enc x).length k)∧Fresh w w' tU8 1 o (enc x).length k ((enc x).map bV))
 | .s bs,w,b,o1,l1,c1,o2,l2,c2,h,hlen=>by
   simp only [ItC,Value.bool.injEq,Value.slice.injEq] at h
   obtain ⟨rfl,⟨o,c,⟨rfl,rfl,rfl⟩,hr,_⟩,rfl,rfl,rfl⟩:=h
   refine calls_gen fun R hR=>rlp_put.vc _ _ _ _ _ _ _ _ _ ?_
   unfold rlp_put.Vc
   rintro d w1 ⟨rfl,rfl⟩
   have X:=Blk.new w 111 #[.bool false,.slice o1 bs.length c1,.slice none 0 0]
   have M:=Mod.alloc (S:=NoB) w (.cells #[.bool false,.slice o1 bs.length c1,.slice none 0 0] 111)
   have hr1:=hr.mod' M
   generalize w.alloc (.cells #[.bool false,.slice o1 bs.length c1,.slice none 0 0] 111)=w1 at *
   simp only [add_at,Nat.zero_add]
   refine ⟨_,X.rd1 rfl,fun _=>⟨_,_,_,X.rd1 rfl,?_⟩,fun h=>by cases h⟩
   refine (own_calls hr1).mono ?_
   rintro _ w2 ⟨rfl,rfl⟩
   simp only [enc] at hlen hR
   refine ⟨_,rfl,fun ho=>⟨_,_,_,X.rd1 rfl,?_⟩,fun ho=>?_⟩
   ·rw [if_pos ho] at hR hlen
    refine (Clone_calls hr1 (by omega)).mono ?_
    rintro _ w3 ⟨o3,k3,rfl,F3⟩
    exact ⟨_,_,_,rfl,hR _ _ ⟨o3,k3,rfl,Fresh.from_ F3 M⟩⟩
   ·rw [if_neg (by rw [ho]; simp),List.length_append] at hlen
    rw [if_neg (by rw [ho]; simp)] at hR
    rintro _ rfl
    have MD:=M.step_drew
    have X2:=X.mod' (Mod.drew (S:=NoB) w2)
    have hr2:=hr1.mod' (Mod.drew (S:=NoB) w2)
    generalize w2.drew=w3 at *
    refine ⟨_,_,_,X2.rd1 rfl,_,_,_,X2.rd1 rfl,?_⟩
    refine (head_calls bs.length 128 (by omega) (by omega)).mono ?_
    rintro _ w4 ⟨o4,k4,rfl,F4⟩
    obtain ⟨o5,k5,w5,hr5,F5⟩:=push_bytes (ty:=tSlU8) (k2:=c1) F4 (hr2.mod' F4.mod) (by omega)
    refine ⟨_,_,_,rfl,(X2.mod' F4.mod).rd1 rfl,_,w5,hr5,_,_,_,rfl,hR _ _ ⟨o5,k5,?_,?_⟩⟩
    ·rw [List.length_append]
    ·rw [List.length_append]; exact Fresh.from_ F5 MD
 | .l xs,w,b,o1,l1,c1,o2,l2,c2,h,hlen=>by
   have ih:∀y∈xs,∀{w:World} {b:Bool} {o1:Option Addr} {l1 c1:Nat} {o2:Option Addr} {l2 c2:Nat},ItC A w y (.bool b) (.slice o1 l1 c1) (.slice o2 l2 c2)→(enc y).length≤2 ^ 20 →
    Calls Tryz.prog rlp_put.n #[.agg #[.bool b,.slice o1 l1 c1,.slice o2 l2 c2]] w (fun e w'=>∃o k,e=.returned (.slice o (enc y).length k)∧Fresh w w' tU8 1 o (enc y).length k ((enc y).map bV)) :=
    fun y hy=>put_calls y
   simp only [ItC,Value.bool.injEq,Value.slice.injEq] at h
   obtain ⟨rfl,⟨rfl,rfl,rfl⟩,o,c,⟨rfl,rfl,rfl⟩,hI,hcc⟩:=h
   clear hcc
   refine calls_gen fun R hR=>rlp_put.vc _ _ _ _ _ _ _ _ _ ?_
   unfold rlp_put.Vc
   rintro d w1 ⟨rfl,rfl⟩
   have X:=Blk.new w 111 #[.bool true,.slice none 0 0,.slice o2 xs.length c2]
   have M:=Mod.alloc (S:=NoB) w (.cells #[.bool true,.slice none 0 0,.slice o2 xs.length c2] 111)
   have hI1:=ItsC.mod M xs hI
   generalize w.alloc (.cells #[.bool true,.slice none 0 0,.slice o2 xs.length c2] 111)=w1 at *
   simp only [add_at,Nat.zero_add]
   simp only [enc,List.length_append] at hlen
   simp only [enc] at hR
   refine ⟨_,X.rd1 rfl,fun h=>(by cases h),fun _=>⟨_,_,_,X.rd1 rfl,?_⟩⟩
   refine ⟨fun o' l' k' i w'=>∃j:Nat,i=(j:Int)∧j≤xs.length∧l'=(encs (xs.take j)).length∧Fresh w1 w' tU8 1 o' l' k' ((encs (xs.take j)).map bV),fun _ _ _ i _=>((xs.length:Int) - i).toNat,
    ⟨0,rfl,Nat.zero_le _,by rw [List.take_zero]; simp only [encs]; rfl,by rw [List.take_zero]; simp only [encs]; exact Fresh.nil (Mod.refl w1) _ _⟩,?_⟩
   have hxl:xs.length≤(encs xs).length:=by
    clear hI hI1 hlen hR ih X M
    induction xs with
    | nil=>simp
    | cons x r ihr =>
      have:1≤(enc x).length:=by
       cases x with
       | s b =>
         simp only [enc]
         split
         ·rename_i ho
          cases b with
          | nil=>simp [own] at ho
          | cons a r=>simp
         ·rw [List.length_append]; have:=(head_len b.length 128).1; omega
       | l ys=>simp only [enc,List.length_append]; have:=(head_len (encs ys).length 192).1; omega
      simp only [encs,List.length_append,List.length_cons]; omega
   rintro o' _ k' _ _ w2 ⟨j,rfl,hj,rfl,F⟩
   have hjle:=encs_take_le xs j
   refine ⟨fun hlt=>?_,fun hge=>?_⟩
   ·have hjl:j < xs.length:=by omega
    obtain ⟨B,f,v1,v2,v3,rfl,hB,h1,h2,h3,hx⟩:=(ItsC.mod F.mod xs hI1).get j hjl
    obtain ⟨b,p1,q1,r1,p2,q2,r2,rfl,rfl,rfl⟩:=hx.vals
    have htk:encs (xs.take (j+1))=encs (xs.take j)++enc xs[j]:=by
     rw [List.take_add_one,List.getElem?_eq_getElem hjl,encs_append]
     show _++encs [xs[j]]=_
     simp only [encs,List.append_nil]
    have hle2:=encs_take_le xs (j+1)
    rw [htk,List.length_append] at hle2
    rw [Nat.zero_add] at h1 h2 h3
    have ew:IntKind.wrap .i64 ((j:Int)+1)=((j+1:Nat):Int):=by rw [wrap_i64_small (by omega) (by omega)]; omega
    rw [ew]
    refine ⟨_,rfl,by omega,_,_,_,_,_,_,_,by rw [add_at,Int.toNat_natCast]; exact h1,by rw [add_at,add_at,Int.toNat_natCast]; exact h2,by rw [add_at,add_at,Int.toNat_natCast]; exact h3,?_⟩
    rintro d w3 ⟨rfl,rfl⟩
    have Y:=Blk.new w2 111 #[.bool false,.slice none 0 0,.slice none 0 0]
    have N:=Mod.alloc (S:=NoB) w2 (.cells #[.bool false,.slice none 0 0,.slice none 0 0] 111)
    simp only [add_at,Nat.zero_add]
    refine ⟨Y.canSet (by simp) rfl,?_⟩
    rintro _ rfl
    have Y1:=Y.set 0 (.bool b)
    have N1:=N.step_set (a:=⟨w2.heap.size,0,none⟩) (v:=.bool b) (fun h=>(Nat.lt_irrefl _ h).elim)
    refine ⟨Y1.canSet (by simp) rfl,?_⟩
    rintro _ rfl
    have Y2:=Y1.set 1 (.slice p1 q1 r1)
    have N2:=N1.step_set (a:=⟨w2.heap.size,1,none⟩) (v:=.slice p1 q1 r1) (fun h=>(Nat.lt_irrefl _ h).elim)
    refine ⟨Y2.canSet (by simp) rfl,?_⟩
    rintro _ rfl
    have Y3:=Y2.set 2 (.slice p2 q2 r2)
    have N3:=N2.step_set (a:=⟨w2.heap.size,2,none⟩) (v:=.slice p2 q2 r2) (fun h=>(Nat.lt_irrefl _ h).elim)
    refine ⟨_,_,_,_,_,_,_,Y3.rd1 rfl,Y3.rd1 rfl,Y3.rd1 rfl,?_⟩
    refine (ih _ (List.getElem_mem hjl) (ItC.mod N3 _ hx) (by omega)).mono ?_
    rintro _ w4 ⟨o4,k4,rfl,F4⟩
    obtain ⟨o5,k5,w5,hr5,F5⟩:=push_bytes (ty:=tSlU8) (k2:=k4) ((F.mod' N3).mod' F4.mod) (fresh_bytes F4) (by omega)
    refine ⟨_,_,_,rfl,_,w5,hr5,_,_,_,rfl,⟨j+1,rfl,hjl,?_,?_⟩,by omega⟩
    ·rw [htk,List.length_append]
    ·rw [htk]; exact F5
   ·obtain rfl:j=xs.length:=by omega
    rw [List.take_length] at F ⊢
    refine (head_calls (encs xs).length 192 (by omega) (by omega)).mono ?_
    rintro _ w4 ⟨o4,k4,rfl,F4⟩
    have hhl:=(head_len (encs xs).length 192).2
    obtain ⟨o5,k5,w5,hr5,F5⟩:=push_bytes (ty:=tSlU8) (k2:=k') F4 ((fresh_bytes F).mod' F4.mod) (by omega)
    refine ⟨_,_,_,rfl,_,w5,hr5,_,_,_,rfl,hR _ _ ⟨o5,k5,?_,?_⟩⟩
    ·rw [List.length_append]
    ·rw [List.length_append]
     exact Fresh.from_ (Fresh.from_ F5 F.mod) M
 termination_by x=>SizeOf.sizeOf x
 decreasing_by
  have:=List.sizeOf_lt_of_mem hy
  simp; omega
end
end Go.Proofs.YtfghidehlnfdiaaGreat
end
section
namespace Go.Trie
mutual
def count:It→Nat
 | .s _=>1
 | .l xs=>1+counts xs
def counts:List It→Nat
 | []=>0
 | x :: r=>count x+counts r
end
mutual
def dep:It→Nat
 | .s _=>1
 | .l xs=>1+deps xs
def deps:List It→Nat
 | []=>0
 | x :: r=>max (dep x) (deps r)
end
theorem counts_append:∀(xs ys:List It),counts (xs++ys)=counts xs+counts ys
 | [],ys=>by simp only [counts,List.nil_append,Nat.zero_add]
 | x :: r,ys=>by simp only [counts,List.cons_append,counts_append r ys,Nat.add_assoc]
theorem counts_take_le (xs:List It) (j:Nat):counts (xs.take j)≤counts xs:=by
 have:=congrArg counts (List.take_append_drop j xs)
 rw [counts_append] at this
 omega
theorem dep_mem:∀{xs:List It} {x:It},x∈xs→dep x≤deps xs
 | y :: r,x,h=>by
   simp only [deps]
   rcases List.mem_cons.1 h with rfl | h
   ·omega
   ·have:=dep_mem h; omega
theorem count_pos (x:It):1≤count x:=by cases x <;> simp only [count] <;> omega
theorem dep_pos (x:It):1≤dep x:=by cases x <;> simp only [dep] <;> omega
theorem counts_len:∀(xs:List It),xs.length≤counts xs
 | []=>Nat.zero_le _
 | x :: r=>by
   have h1:=counts_len r
   have h2:=count_pos x
   simp only [counts,List.length_cons]; omega
theorem head_base (n b c:Nat):(head n b).length=(head n c).length:=by unfold head; split <;> simp
end Go.Trie
namespace Go.Proofs.YtfghidehlnfdiaaGreat
open Go Go.Vcg Go.Trie
section
variable {A:Nat→Prop}
theorem meets_calls {w:World} {D n depth:Nat} (W:Blk w D 217 #[.int .i64 (n:Int)]) (hd:depth≤16) (hn:n < 4096) :
 Calls Tryz.prog rlp_walker_meets.n #[.pointer (some ⟨D,0,none⟩),.int .i64 (depth:Int)] w (fun e w'=>e=.returned (.int .i64 0)∧Vcg.Mod (·=D) w w'∧Blk w' D 217 #[.int .i64 ((n+1:Nat):Int)]):=by
 refine rlp_walker_meets.vc _ _ _ _ ?_
 unfold rlp_walker_meets.Vc
 refine ⟨fun h=>by omega,fun _=>⟨_,W.rd1 rfl,fun h=>by omega,fun _=>⟨_,W.rd1 rfl,W.canSet (by simp) rfl,?_⟩⟩⟩
 rintro _ rfl
 have ew:IntKind.wrap .i64 ((n:Int)+1)=((n+1:Nat):Int):=by rw [wrap_i64_small (by omega) (by omega)]; omega
 rw [ew]
 exact ⟨rfl,Mod.setCell w ⟨D,0,none⟩ _,W.set 0 _⟩
theorem mod_of {w0 w w':World} {D:Nat} (M:Vcg.Mod NoB w0 w) (h:Vcg.Mod (·=D) w w') (hD:w0.heap.size≤D):Vcg.Mod NoB w0 w' :=
 M.trans h (fun i hi e=>by subst e; omega)
theorem size_calls:∀(x:It) {w0 w:World} {b:Bool} {o1:Option Addr} {l1 c1:Nat} {o2:Option Addr} {l2 c2:Nat} {D n depth:Nat},ItC A w0 x (.bool b) (.slice o1 l1 c1) (.slice o2 l2 c2)→Vcg.Mod NoB w0 w→w0.heap.size≤D→Blk w D 217 #[.int .i64 (n:Int)]→depth+dep x≤17→n+count x≤4096→(enc x).length≤2 ^ 20 →
 Calls Tryz.prog rlp_walker_size.n #[.pointer (some ⟨D,0,none⟩),.agg #[.bool b,.slice o1 l1 c1,.slice o2 l2 c2],.int .i64 (depth:Int)] w (fun e w'=>e=.returned (.tuple #[.int .i64 (((enc x).length:Nat):Int),.int .i64 0])∧Vcg.Mod (·=D) w w'∧Blk w' D 217 #[.int .i64 ((n+count x:Nat):Int)])
 | .s bs,w0,w,b,o1,l1,c1,o2,l2,c2,D,n,depth,h,M,hD,W,hdp,hn,hlen=>by
   simp only [ItC,Value.bool.injEq,Value.slice.injEq] at h
   obtain ⟨rfl,⟨o,c,⟨rfl,rfl,rfl⟩,hr,_⟩,rfl,rfl,rfl⟩:=h
   simp only [dep,count] at hdp hn ⊢
   refine calls_gen fun R hR=>rlp_walker_size.vc _ _ _ _ _ _ _ _ _ _ _ ?_
   unfold rlp_walker_size.Vc
   rintro d w1 ⟨rfl,rfl⟩
   have X:=Blk.new w 111 #[.bool false,.slice o1 bs.length c1,.slice none 0 0]
   have M1:=Mod.alloc (S:=(·=D)) w (.cells #[.bool false,.slice o1 bs.length c1,.slice none 0 0] 111)
   have W1:=W.alloc (.cells #[.bool false,.slice o1 bs.length c1,.slice none 0 0] 111)
   have hne:w.heap.size≠D:=by have:=W.lt; omega
   generalize w.alloc (.cells #[.bool false,.slice o1 bs.length c1,.slice none 0 0] 111)=w1 at *
   generalize w.heap.size=N at *
   refine (meets_calls W1 (by omega) (by omega)).mono ?_
   rintro _ w2 ⟨rfl,M2,W2⟩
   have X2:=X.mod M2 hne
   have M02:=M1.trans M2 (fun _ _ h=>h)
   have hr2:=hr.mod' (mod_of M M02 hD)
   refine ⟨_,rfl,fun h=>(h rfl).elim,fun _=>?_⟩
   simp only [add_at,Nat.zero_add]
   simp only [enc] at hlen hR
   refine ⟨fun w'=>w'=w2∧own bs=false,⟨fun b w'=>b=false∧w'=w2,⟨_,X2.rd1 rfl,fun h=>(by cases h),fun _=>⟨_,X2.rd1 rfl,fun _=>⟨_,_,_,X2.rd1 rfl,by simp,rfl⟩,fun h=>by cases h⟩⟩,?_⟩,?_⟩
   ·rintro _ _ _ ⟨rfl,rfl⟩
    refine ⟨fun h=>(by cases h),fun _=>⟨_,_,_,X2.rd1 rfl,?_⟩⟩
    refine (own_calls hr2).mono ?_
    rintro _ w3 ⟨rfl,rfl⟩
    refine ⟨_,rfl,fun ho=>?_,fun ho=>⟨rfl,ho⟩⟩
    rw [if_pos ho] at hR
    have hl1:bs.length=1:=by
     cases bs with
     | nil=>simp [own] at ho
     | cons a r=>cases r with
       | nil=>rfl
       | cons b r=>simp [own] at ho
    exact hR _ _ ⟨by rw [hl1]; rfl,M02,W2⟩
   ·rintro _ w2 ⟨rfl,ho⟩
    rw [if_neg (by rw [ho]; simp),List.length_append] at hR hlen
    refine ⟨_,_,_,X2.rd1 rfl,_,_,_,X2.rd1 rfl,?_⟩
    refine ⟨fun a i w'=>a=((bs.length:Nat):Int)∧i=0∧w'=w2,fun _ _ _=>0,⟨rfl,rfl,rfl⟩,?_⟩
    rintro _ _ _ _ ⟨rfl,rfl,rfl⟩
    refine ⟨fun h=>absurd h (by simp),fun _=>?_⟩
    refine (head_calls bs.length 0 (by omega) (by omega)).mono ?_
    rintro _ w4 ⟨o4,k4,rfl,F4⟩
    refine ⟨_,_,_,rfl,hR _ _ ⟨?_,M02.trans (F4.mod.mono (fun _ _ h=>h.elim)) (fun _ _ h=>h),W2.mod' F4.mod⟩⟩
    have hb:=head_base bs.length 0 128
    have ew:IntKind.wrap .i64 (((bs.length:Nat):Int)+(((Trie.head bs.length 0).length:Nat):Int))=(((Trie.head bs.length 128).length+bs.length:Nat):Int):=by
     rw [hb,wrap_i64_small (by omega) (by omega)]; omega
    rw [ew]
 | .l xs,w0,w,b,o1,l1,c1,o2,l2,c2,D,n,depth,h,M,hD,W,hdp,hn,hlen=>by
   have ih:∀y∈xs,∀{w0 w:World} {b:Bool} {o1:Option Addr} {l1 c1:Nat} {o2:Option Addr} {l2 c2:Nat} {D n depth:Nat},ItC A w0 y (.bool b) (.slice o1 l1 c1) (.slice o2 l2 c2)→Vcg.Mod NoB w0 w→w0.heap.size≤D→Blk w D 217 #[.int .i64 (n:Int)]→depth+dep y≤17→n+count y≤4096→(enc y).length≤2 ^ 20 →
    Calls Tryz.prog rlp_walker_size.n #[.pointer (some ⟨D,0,none⟩),.agg #[.bool b,.slice o1 l1 c1,.slice o2 l2 c2],.int .i64 (depth:Int)] w (fun e w'=>e=.returned (.tuple #[.int .i64 (((enc y).length:Nat):Int),.int .i64 0])∧Vcg.Mod (·=D) w w'∧Blk w' D 217 #[.int .i64 ((n+count y:Nat):Int)]) :=
    fun y hy=>size_calls y
   simp only [ItC,Value.bool.injEq,Value.slice.injEq] at h
   obtain ⟨rfl,⟨rfl,rfl,rfl⟩,o,c,⟨rfl,rfl,rfl⟩,hI,hcc⟩:=h
   clear hcc
   simp only [dep,count] at hdp hn ⊢
   refine calls_gen fun R hR=>rlp_walker_size.vc _ _ _ _ _ _ _ _ _ _ _ ?_
   unfold rlp_walker_size.Vc
   rintro d w1 ⟨rfl,rfl⟩
   have X:=Blk.new w 111 #[.bool true,.slice none 0 0,.slice o2 xs.length c2]
   have M1:=Mod.alloc (S:=(·=D)) w (.cells #[.bool true,.slice none 0 0,.slice o2 xs.length c2] 111)
   have W1:=W.alloc (.cells #[.bool true,.slice none 0 0,.slice o2 xs.length c2] 111)
   have hne:w.heap.size≠D:=by have:=W.lt; omega
   generalize w.alloc (.cells #[.bool true,.slice none 0 0,.slice o2 xs.length c2] 111)=w1 at *
   generalize w.heap.size=N at *
   refine (meets_calls W1 (by omega) (by omega)).mono ?_
   rintro _ w2 ⟨rfl,M2,W2⟩
   have X2:=X.mod M2 hne
   have M02:=M1.trans M2 (fun _ _ h=>h)
   refine ⟨_,rfl,fun h=>(h rfl).elim,fun _=>?_⟩
   simp only [add_at,Nat.zero_add]
   simp only [enc,List.length_append] at hlen hR
   refine ⟨fun w'=>w'=w2,⟨fun b w'=>b=false∧w'=w2,⟨_,X2.rd1 rfl,fun _=>⟨_,_,_,X2.rd1 rfl,fun h=>absurd h (by simp),fun _=>⟨_,X2.rd1 rfl,fun h=>(by cases h),fun _=>⟨rfl,rfl⟩⟩⟩,fun h=>by cases h⟩,?_⟩,?_⟩
   ·rintro _ _ _ ⟨rfl,rfl⟩
    refine ⟨fun h=>(by cases h),fun _=>⟨_,_,_,X2.rd1 rfl,?_⟩⟩
    refine (own_calls (b:=[]) (RdB.nil _ _)).mono ?_
    rintro _ w3 ⟨rfl,rfl⟩
    exact ⟨_,rfl,fun ho=>(by simp [own] at ho),fun _=>rfl⟩
   ·rintro _ w2 rfl
    refine ⟨_,_,_,X2.rd1 rfl,_,_,_,X2.rd1 rfl,?_⟩
    refine ⟨fun a i w'=>∃j:Nat,i=(j:Int)∧j≤xs.length∧a=(((encs (xs.take j)).length:Nat):Int)∧Vcg.Mod (·=D) w w'∧Blk w' D 217 #[.int .i64 ((n+1+counts (xs.take j):Nat):Int)],fun _ i _=>((xs.length:Int) - i).toNat,
     ⟨0,rfl,Nat.zero_le _,by rw [List.take_zero]; simp only [encs]; rfl,M02,by rw [List.take_zero]; simp only [counts]; exact W2⟩,?_⟩
    have hcl:=counts_len xs
    rintro _ _ _ w4 ⟨j,rfl,hj,rfl,M4,W4⟩
    have hle1:=encs_take_le xs j
    refine ⟨fun hlt=>?_,fun hge=>?_⟩
    ·have hjl:j < xs.length:=by omega
     have M04:=mod_of M M4 hD
     obtain ⟨B,f,v1,v2,v3,rfl,hB,h1,h2,h3,hx⟩:=hI.get j hjl
     obtain ⟨b,p1,q1,r1,p2,q2,r2,rfl,rfl,rfl⟩:=hx.vals
     have htk:xs.take (j+1)=xs.take j++[xs[j]]:=by rw [List.take_add_one,List.getElem?_eq_getElem hjl]; rfl
     have he:encs (xs.take (j+1))=encs (xs.take j)++enc xs[j]:=by rw [htk,encs_append]; simp only [encs,List.append_nil]
     have hcn:counts (xs.take (j+1))=counts (xs.take j)+count xs[j]:=by rw [htk,counts_append]; simp only [counts,Nat.add_zero]
     have hle2:=encs_take_le xs (j+1)
     have hc2:=counts_take_le xs (j+1)
     have hdm:=dep_mem (List.getElem_mem hjl)
     rw [he,List.length_append] at hle2
     rw [hcn] at hc2
     rw [Nat.zero_add] at h1 h2 h3
     have cl:∀i,w4.cell? ⟨B,i,none⟩=w0.cell? ⟨B,i,none⟩:=fun i=>cell_mod M04 hB (fun h=>h)
     have ew:IntKind.wrap .i64 ((j:Int)+1)=((j+1:Nat):Int):=by rw [wrap_i64_small (by omega) (by omega)]; omega
     have ew2:IntKind.wrap .i64 ((depth:Int)+1)=((depth+1:Nat):Int):=by rw [wrap_i64_small (by omega) (by omega)]; omega
     rw [ew,ew2]
     refine ⟨_,rfl,by omega,_,_,_,_,_,_,_,by rw [add_at,Int.toNat_natCast]; exact (cl _).trans h1,by rw [add_at,add_at,Int.toNat_natCast]; exact (cl _).trans h2,by rw [add_at,add_at,Int.toNat_natCast]; exact (cl _).trans h3,?_⟩
     rintro d w5 ⟨rfl,rfl⟩
     have Y:=Blk.new w4 111 #[.bool false,.slice none 0 0,.slice none 0 0]
     have Q:=Mod.alloc (S:=NoB) w4 (.cells #[.bool false,.slice none 0 0,.slice none 0 0] 111)
     simp only [add_at,Nat.zero_add]
     refine ⟨Y.canSet (by simp) rfl,?_⟩
     rintro _ rfl
     have Y1:=Y.set 0 (.bool b)
     have Q1:=Q.step_set (a:=⟨w4.heap.size,0,none⟩) (v:=.bool b) (fun h=>(Nat.lt_irrefl _ h).elim)
     refine ⟨Y1.canSet (by simp) rfl,?_⟩
     rintro _ rfl
     have Y2:=Y1.set 1 (.slice p1 q1 r1)
     have Q2:=Q1.step_set (a:=⟨w4.heap.size,1,none⟩) (v:=.slice p1 q1 r1) (fun h=>(Nat.lt_irrefl _ h).elim)
     refine ⟨Y2.canSet (by simp) rfl,?_⟩
     rintro _ rfl
     have Y3:=Y2.set 2 (.slice p2 q2 r2)
     have Q3:=Q2.step_set (a:=⟨w4.heap.size,2,none⟩) (v:=.slice p2 q2 r2) (fun h=>(Nat.lt_irrefl _ h).elim)
     refine ⟨_,_,_,_,_,_,_,Y3.rd1 rfl,Y3.rd1 rfl,Y3.rd1 rfl,?_⟩
     refine (ih _ (List.getElem_mem hjl) hx (M04.trans Q3 (fun _ _ h=>h)) hD (W4.mod' Q3) (depth:=depth+1) (by omega) (by omega) (by omega)).mono ?_
     rintro _ w6 ⟨rfl,M6,W6⟩
     refine ⟨_,_,rfl,fun h=>(h rfl).elim,fun _=>⟨⟨j+1,rfl,hjl,?_,(M4.trans (Q3.mono (fun _ _ h=>h.elim)) (fun _ _ h=>h)).trans M6 (fun _ _ h=>h),?_⟩,by omega⟩⟩
     ·rw [he,List.length_append,wrap_i64_small (by omega) (by omega)]; omega
     ·rw [hcn,show n+1+(counts (xs.take j)+count xs[j])=n+1+counts (xs.take j)+count xs[j] by omega]; exact W6
    ·obtain rfl:j=xs.length:=by omega
     rw [List.take_length] at W4 ⊢
     refine (head_calls (encs xs).length 0 (by omega) (by omega)).mono ?_
     rintro _ w5 ⟨o5,k5,rfl,F5⟩
     have hb:=head_base (encs xs).length 0 192
     refine ⟨_,_,_,rfl,hR _ _ ⟨?_,M4.trans (F5.mod.mono (fun _ _ h=>h.elim)) (fun _ _ h=>h),?_⟩⟩
     ·have ew:IntKind.wrap .i64 ((((encs xs).length:Nat):Int)+(((Trie.head (encs xs).length 0).length:Nat):Int))=(((Trie.head (encs xs).length 192).length+(encs xs).length:Nat):Int):=by
       rw [hb,wrap_i64_small (by omega) (by omega)]; omega
      rw [ew]
     ·rw [show n+(1+counts xs)=n+1+counts xs by omega]
      exact W4.mod' F5.mod
 termination_by x=>SizeOf.sizeOf x
 decreasing_by
  have:=List.sizeOf_lt_of_mem hy
  simp; omega
theorem Encode_calls {x:It} {w:World} {v1 v2 v3:Value} (h:ItC A w x v1 v2 v3) (hd:dep x≤16) (hn:count x≤4096) (hl:(enc x).length≤65536) :
 Calls Tryz.prog rlp_Encode.n #[.agg #[v1,v2,v3]] w (fun e w'=>∃o k,e=.returned (.tuple #[.slice o (enc x).length k,.int .i64 0])∧Fresh w w' tU8 1 o (enc x).length k ((enc x).map bV)):=by
 obtain ⟨b,o1,l1,c1,o2,l2,c2,rfl,rfl,rfl⟩:=h.vals
 refine rlp_Encode.vc _ _ _ _ _ _ _ _ _ ?_
 unfold rlp_Encode.Vc
 rintro d w1 ⟨rfl,rfl⟩ d5 w2 ⟨rfl,rfl⟩
 have M1:=Mod.alloc (S:=NoB) w (.cells #[.bool b,.slice o1 l1 c1,.slice o2 l2 c2] 111)
 have M2:=M1.step_alloc (.cells #[.int .i64 0] 217)
 have X:=(Blk.new w 111 #[.bool b,.slice o1 l1 c1,.slice o2 l2 c2]).alloc (.cells #[.int .i64 0] 217)
 have W:=Blk.new (w.alloc (.cells #[.bool b,.slice o1 l1 c1,.slice o2 l2 c2] 111)) 217 #[.int .i64 0]
 have hsz:(w.alloc (.cells #[.bool b,.slice o1 l1 c1,.slice o2 l2 c2] 111)).heap.size=w.heap.size+1:=size_alloc _ _
 generalize (w.alloc (.cells #[.bool b,.slice o1 l1 c1,.slice o2 l2 c2] 111)).heap.size=D at *
 generalize (w.alloc (.cells #[.bool b,.slice o1 l1 c1,.slice o2 l2 c2] 111)).alloc (.cells #[.int .i64 0] 217)=w2 at *
 simp only [add_at,Nat.zero_add]
 refine ⟨_,_,_,_,_,_,_,X.rd1 rfl,X.rd1 rfl,X.rd1 rfl,?_⟩
 refine (size_calls x h M2 (by omega) W (n:=0) (depth:=1) (by omega) (by omega) (by omega)).mono ?_
 rintro _ w3 ⟨rfl,M3,_⟩
 have X3:=X.mod M3 (by omega)
 have M03:=mod_of M2 M3 (by omega)
 refine ⟨_,_,rfl,fun h=>(h rfl).elim,fun _=>⟨fun h=>by omega,fun _=>⟨_,_,_,_,_,_,_,X3.rd1 rfl,X3.rd1 rfl,X3.rd1 rfl,?_⟩⟩⟩
 refine (put_calls x (ItC.mod M03 x h) (by omega)).mono ?_
 rintro _ w4 ⟨o4,k4,rfl,F4⟩
 exact ⟨_,_,_,rfl,o4,k4,rfl,Fresh.from_ F4 M03⟩
end
end Go.Proofs.YtfghidehlnfdiaaGreat
end
section
namespace Go.Trie
open Go.Vcg
def wrapRef (x:It):It:=if 32≤(enc x).length then .s (sumOf (enc x)) else x
def packed (p:By) (leaf:Bool):By:=(pack p leaf).1
def itemOf:Nd→It
 | .nil=>.s []
 | .leaf p v=>.l [.s (packed p true),.s v]
 | .row p c=>.l [.s (packed p false),wrapRef (itemOf c)]
 | .branch cs v=>.l (((List.finRange 16).map fun i=>wrapRef (itemOf (cs i)))++[.s v])
def refOf (n:Nd):It:=wrapRef (itemOf n)
def bytesOf (n:Nd):By:=enc (itemOf n)
theorem head_pos (n b:Nat):1≤(head n b).length:=by unfold head; split <;> simp
theorem head_le (n b:Nat):(head n b).length≤9:=by
 have:=digits_le n
 unfold head; split <;> simp <;> omega
theorem enc_pos (x:It):1≤(enc x).length:=by
 cases x with
 | s b =>
   simp only [enc]
   split
   ·rename_i ho
    cases b with
    | nil=>simp [own] at ho
    | cons a r=>simp
   ·rw [List.length_append]; have:=head_pos b.length 128; omega
 | l xs=>simp only [enc,List.length_append]; have:=head_pos (encs xs).length 192; omega
theorem encs_len:∀(xs:List It),xs.length≤(encs xs).length
 | []=>by simp
 | x :: r=>by
   have h1:=enc_pos x
   have h2:=encs_len r
   simp only [encs,List.length_append,List.length_cons]; omega
theorem enc_mem:∀{xs:List It} {x:It},x∈xs→(enc x).length+xs.length≤(encs xs).length+1
 | y :: r,x,h=>by
   simp only [encs,List.length_append,List.length_cons]
   rcases List.mem_cons.1 h with rfl | h
   ·have:=encs_len r; omega
   ·have h1:=enc_mem h
    have h2:=enc_pos y
    omega
theorem enc_s_le (b:By):(enc (.s b)).length≤9+b.length:=by
 simp only [enc]
 split
 ·omega
 ·rw [List.length_append]; have:=head_le b.length 128; omega
end Go.Trie
end
section
namespace Go.Trie
open Go.Vcg
def Small:Nd→Prop
 | .nil=>True
 | .leaf p v=>p.length≤128∧v.length≤1024
 | .row p c=>p.length≤128∧Small c
 | .branch cs v=>v.length≤1024∧∀i,Small (cs i)
theorem packed_le (p:By) (leaf:Bool) (h:p.length≤128):(packed p leaf).length≤65:=by
 unfold packed pack
 split
 ·simp
 ·obtain ⟨n,hn⟩:=headed_even p leaf
  rw [pairs_len n _ hn]
  have:(headed p leaf).length≤2+p.length:=by unfold headed; split <;> simp <;> omega
  omega
theorem ref_le (n:Nd):(enc (refOf n)).length≤41:=by
 unfold refOf wrapRef
 split
 ·have:=enc_s_le (sumOf (enc (itemOf n)))
  rw [length_sumOf] at this; omega
 ·omega
theorem encs_map_le (cs:Fin 16→Nd):∀(l:List (Fin 16)),(encs (l.map fun i=>wrapRef (itemOf (cs i)))).length≤41 * l.length
 | []=>by simp [encs]
 | i :: r=>by
   have h1:=ref_le (cs i)
   have h2:=encs_map_le cs r
   unfold refOf at h1
   simp only [List.map_cons,encs,List.length_append,List.length_cons]; omega
theorem bytes_le {n:Nd} (h:Small n):(bytesOf n).length≤2000:=by
 cases n with
 | nil=>simp only [bytesOf,itemOf]; have:=enc_s_le []; simp at this; omega
 | leaf p v =>
   have h1:=packed_le p true h.1
   have h2:=enc_s_le (packed p true)
   have h3:=enc_s_le v
   have h4:=h.2
   simp only [bytesOf,itemOf]
   rw [enc]
   simp only [encs,List.length_append,List.length_nil]
   have:=head_le (enc (It.s (packed p true))++(enc (It.s v)++[])).length 192
   simp only [List.length_append,List.length_nil] at this
   omega
 | row p c =>
   have h1:=packed_le p false h.1
   have h2:=enc_s_le (packed p false)
   have h3:=ref_le c
   unfold refOf at h3
   simp only [bytesOf,itemOf]
   rw [enc]
   simp only [encs,List.length_append,List.length_nil]
   have:=head_le (enc (It.s (packed p false))++(enc (wrapRef (itemOf c))++[])).length 192
   simp only [List.length_append,List.length_nil] at this
   omega
 | branch cs v =>
   have h1:=encs_map_le cs (List.finRange 16)
   rw [List.length_finRange] at h1
   have h2:=enc_s_le v
   have h3:=h.1
   simp only [bytesOf,itemOf]
   rw [enc,Go.Proofs.YtfghidehlnfdiaaGreat.encs_append]
   simp only [encs,List.length_append,List.length_nil]
   have:=head_le (encs ((List.finRange 16).map fun i=>wrapRef (itemOf (cs i)))++(enc (It.s v)++[])).length 192
   simp only [List.length_append,List.length_nil] at this
   omega
end Go.Trie
end
section
namespace Go.Trie
def be (b:By):Nat:=b.foldl (fun n d=>n * 256+d.toNat) 0
theorem be_snoc (b:By) (d:UInt8):be (b++[d])=be b * 256+d.toNat:=by simp [be]
theorem be_lt':∀(b:By) (n:Nat),b.foldl (fun n d=>n * 256+d.toNat) n < (n+1) * 256 ^ b.length
 | [],n=>by simp
 | d :: r,n=>by
   have h1:=be_lt' r (n * 256+d.toNat)
   have h2:=d.toNat_lt
   have h3:(n * 256+d.toNat+1) * 256 ^ r.length≤((n+1) * 256) * 256 ^ r.length:=Nat.mul_le_mul_right _ (by omega)
   rw [List.foldl_cons,List.length_cons,Nat.pow_succ,Nat.mul_comm (256 ^ r.length) 256,← Nat.mul_assoc]
   omega
theorem be_lt (b:By):be b < 256 ^ b.length:=by
 have:=be_lt' b 0
 simpa [be] using this
def hd (b:By):Except Int (Bool×Nat×Nat×Bool) :=
 let c:=(b.getD 0 0).toNat
 if c < 128 then .ok (false,0,1,true)
 else
  let base:=if c≥192 then 192 else 128
  if c - base≤55 then .ok (decide (c≥192),1,c - base,false)
  else
   let k:=c - base - 55
   if b.length < 1+k then .error 41
   else
    let m:=be ((b.drop 1).take k)
    if b.getD 1 0=0∨m≤55∨m > 2147483648 then .error 40
    else .ok (decide (c≥192),1+k,m,false)
mutual
def dcd:Nat→Nat→Nat→By→Except Int (It×Nat×Nat)
 | 0,_,_,_=>.error 0
 | f+1,d,n,b =>
   if b=[] then .error 41
   else if d > 16∨n=4096 then .error 43
   else match hd b with
   | .error e=>.error e
   | .ok (lst,a,k,ow) =>
     if k > b.length - a then .error 41
     else if lst=false then
      (if ow=false∧own ((b.drop a).take k)=true then .error 40 else .ok (.s ((b.drop a).take k),a+k,n+1))
     else match dcds f (d+1) (n+1) ((b.drop a).take k) with
     | .error e=>.error e
     | .ok (xs,m)=>.ok (.l xs,a+k,m)
def dcds:Nat→Nat→Nat→By→Except Int (List It×Nat)
 | 0,_,_,_=>.error 0
 | f+1,d,n,b =>
   if b=[] then .ok ([],n)
   else match dcd f d n b with
   | .error e=>.error e
   | .ok (x,k,m)=>match dcds f d m (b.drop k) with
     | .error e=>.error e
     | .ok (xs,m')=>.ok (x :: xs,m')
end
def dcod (b:By):Except Int It :=
 if b.length > 65536 then .error 44
 else match dcd (2 * b.length+1) 1 0 b with
 | .error e=>.error e
 | .ok (x,k,_)=>if k < b.length then .error 42 else .ok x
theorem hd_at {b:By} {l o:Bool} {a k:Nat} (h:hd b=.ok (l,a,k,o)) (hb:b≠[]) :
 (o=true→l=false∧a=0∧k=1∧(b.getD 0 0).toNat < 128)∧(o=false→1≤a∧a≤b.length∧∀base,(head k base).length≤a):=by
 unfold hd at h
 simp only at h
 split at h
 ·rename_i hc
  cases h
  exact ⟨fun _=>⟨rfl,rfl,rfl,hc⟩,fun h=>by cases h⟩
 ·have hbl:1≤b.length:=List.length_pos_iff.2 hb
  generalize (if (b.getD 0 0).toNat≥192 then 192 else 128)=base at *
  split at h
  ·rename_i hle
   cases h
   exact ⟨fun h=>(by cases h),fun _=>⟨Nat.le_refl _,hbl,fun b=>by unfold head; rw [if_pos hle]; simp⟩⟩
  ·split at h
   ·cases h
   ·rename_i hlen
    split at h
    ·cases h
    ·cases h
     refine ⟨fun h=>(by cases h),fun _=>⟨by omega,by omega,fun b'=>?_⟩⟩
     have hm:=be_lt ((b.drop 1).take ((b.getD 0 0).toNat - base - 55))
     rw [List.length_take,List.length_drop,Nat.min_eq_left (by omega)] at hm
     generalize be ((b.drop 1).take ((b.getD 0 0).toNat - base - 55))=m at *
     have hd:∀f q k,m < 256 ^ k→q=m→(digitsF f q).length≤k:=by
      clear hm
      have:∀f q k,q < 256 ^ k→(digitsF f q).length≤k:=by
       intro f
       induction f with
       | zero=>intro q k _; simp [digitsF]
       | succ f ih =>
         intro q k hq
         simp only [digitsF]
         split
         ·simp
         ·rename_i hq0
          cases k with
          | zero=>simp at hq; omega
          | succ k =>
            rw [Nat.pow_succ] at hq
            have:=ih (q / 256) k (by omega)
            simp only [List.length_append,List.length_singleton]; omega
      intro f q k h1 h2
      exact this f q k (h2 ▸ h1)
     have:=hd 8 m _ hm rfl
     unfold head
     split
     ·simp only [List.length_singleton]; omega
     ·simp only [List.length_cons,digits]; omega
theorem dec_ok:∀(f d n:Nat) (b:By),(∀x k m,dcd f d n b=.ok (x,k,m)→1≤k∧k≤b.length∧(enc x).length≤k∧dep x+d≤17∧m=n+count x∧(n≤4096→m≤4096)) ∧
 (∀xs m,dcds f d n b=.ok (xs,m)→(encs xs).length≤b.length∧(xs=[]∨deps xs+d≤17)∧m=n+counts xs∧(n≤4096→m≤4096))
 | 0,_,_,_=>⟨fun x k m h=>by simp [dcd] at h,fun xs m h=>by simp [dcds] at h⟩
 | f+1,d,n,b=>by
   refine ⟨fun x k m h=>?_,fun xs m h=>?_⟩
   ·simp only [dcd] at h
    split at h
    ·cases h
    ·rename_i hb
     split at h
     ·cases h
     ·rename_i hdn
      split at h
      ·cases h
      ·rename_i lst a k' ow hh
       obtain ⟨ho1,ho2⟩:=hd_at hh hb
       have hbl:1≤b.length:=List.length_pos_iff.2 hb
       split at h
       ·cases h
       ·rename_i hk
        have hil:((b.drop a).take k').length=k':=by rw [List.length_take,List.length_drop]; omega
        split at h
        ·rename_i hl
         split at h
         ·cases h
         ·rename_i how
          cases h
          cases ow with
          | true =>
            obtain ⟨_,rfl,rfl,hc⟩:=ho1 rfl
            refine ⟨by omega,by omega,?_,by simp only [dep]; omega,by simp only [count],by omega⟩
            obtain ⟨c,r,rfl⟩:∃c r,b=c :: r:=by cases b with
             | nil=>exact (hb rfl).elim
             | cons c r=>exact ⟨c,r,rfl⟩
            simp only [List.drop_zero,List.take_succ_cons,List.take_zero,enc]
            have:own [c]=true:=by
             simp only [own,decide_eq_true_eq]
             rw [UInt8.lt_iff_toNat_lt]
             simpa using hc
            rw [if_pos this]; simp
          | false =>
            obtain ⟨h1,h2,h3⟩:=ho2 rfl
            have hno:own ((b.drop a).take k')=false:=by
             cases hh:own ((b.drop a).take k') with
             | false=>rfl
             | true=>exact (how ⟨rfl,hh⟩).elim
            refine ⟨by omega,by omega,?_,by simp only [dep]; omega,by simp only [count],by omega⟩
            simp only [enc]
            rw [hno,if_neg (by simp),List.length_append,hil]
            have:=h3 128
            omega
        ·rename_i hl
         have hlt:lst=true:=by cases lst <;> simp_all
         have hof:ow=false:=by
          cases ow with
          | true=>have:=(ho1 rfl).1; rw [hlt] at this; cases this
          | false=>rfl
         obtain ⟨h1,h2,h3⟩:=ho2 hof
         split at h
         ·cases h
         ·rename_i xs m' hr
          cases h
          obtain ⟨i1,i2,i3,i4⟩:=(dec_ok f (d+1) (n+1) ((b.drop a).take k')).2 _ _ hr
          rw [hil] at i1
          refine ⟨by omega,by omega,?_,?_,by simp only [count]; omega,by omega⟩
          ·simp only [enc,List.length_append]
           have hmono:(head (encs xs).length 192).length≤(head k' 192).length:=by
            have hdl:∀f p q,p≤q→(digitsF f p).length≤(digitsF f q).length:=by
             intro f
             induction f with
             | zero=>intro p q _; simp [digitsF]
             | succ f ih =>
               intro p q hpq
               simp only [digitsF]
               split
               ·simp
               ·rw [if_neg (by omega)]
                have:=ih (p / 256) (q / 256) (Nat.div_le_div_right hpq)
                simp only [List.length_append,List.length_singleton]; omega
            unfold head
            split
            ·split <;> simp
            ·rw [if_neg (by omega)]
             simp only [List.length_cons,digits]
             have:=hdl 8 _ _ i1
             omega
           have:=h3 192
           omega
          ·simp only [dep]
           rcases i2 with rfl | i2
           ·simp only [deps]; omega
           ·omega
   ·simp only [dcds] at h
    split at h
    ·cases h
     exact ⟨by simp [encs],.inl rfl,by simp [counts],by omega⟩
    ·rename_i hb
     split at h
     ·cases h
     ·rename_i x k m1 hx
      split at h
      ·cases h
      ·rename_i ys m2 hy
       cases h
       obtain ⟨a1,a2,a3,a4,a5,a6⟩:=(dec_ok f d n b).1 _ _ _ hx
       obtain ⟨b1,b2,b3,b4⟩:=(dec_ok f d m1 (b.drop k)).2 _ _ hy
       rw [List.length_drop] at b1
       refine ⟨?_,.inr ?_,?_,by omega⟩
       ·simp only [encs,List.length_append]; omega
       ·simp only [deps]
        rcases b2 with rfl | b2
        ·simp only [deps]; omega
        ·omega
       ·simp only [counts]; omega
theorem dcod_ok {b:By} {x:It} (h:dcod b=.ok x):b.length≤65536∧(enc x).length≤b.length∧dep x≤16∧count x≤4096:=by
 unfold dcod at h
 split at h
 ·cases h
 ·split at h
  ·cases h
  ·rename_i y k m hd
   split at h
   ·cases h
   ·cases h
    obtain ⟨a1,a2,a3,a4,a5,a6⟩:=(dec_ok _ _ _ _).1 _ _ _ hd
    refine ⟨by omega,by omega,by omega,by omega⟩
theorem dcd_nil (f d n:Nat):dcd (f+1) d n []=.error 41:=by simp [dcd]
theorem dcd_deep {f d n:Nat} {b:By} (hb:b≠[]) (h:d > 16∨n=4096):dcd (f+1) d n b=.error 43:=by simp only [dcd]; rw [if_neg hb,if_pos h]
theorem dcd_go {f d n:Nat} {b:By} (hb:b≠[]) (h:¬(d > 16∨n=4096)):dcd (f+1) d n b=(match hd b with
 | .error e=>.error e
 | .ok (lst,a,k,ow) =>
   if k > b.length - a then .error 41
   else if lst=false then
    (if ow=false∧own ((b.drop a).take k)=true then .error 40 else .ok (.s ((b.drop a).take k),a+k,n+1))
   else match dcds f (d+1) (n+1) ((b.drop a).take k) with
   | .error e=>.error e
   | .ok (xs,m)=>.ok (.l xs,a+k,m)):=by
 simp only [dcd]; rw [if_neg hb,if_neg h]
theorem dcds_nil (f d n:Nat):dcds (f+1) d n []=.ok ([],n):=by simp [dcds]
theorem dcds_go {f d n:Nat} {b:By} (hb:b≠[]):dcds (f+1) d n b=(match dcd f d n b with
 | .error e=>.error e
 | .ok (x,k,m)=>match dcds f d m (b.drop k) with
   | .error e=>.error e
   | .ok (xs,m')=>.ok (x :: xs,m')):=by
 simp only [dcds]; rw [if_neg hb]
theorem hd_bound {b:By} {l o:Bool} {a k:Nat} (h:hd b=.ok (l,a,k,o)):k≤2147483648:=by
 have h255:=(b.getD 0 0).toNat_lt
 unfold hd at h
 simp only at h
 split at h
 ·cases h; decide
 ·generalize (if (b.getD 0 0).toNat≥192 then 192 else 128)=base at *
  split at h
  ·cases h; omega
  ·split at h
   ·cases h
   ·split at h
    ·cases h
    ·rename_i h'; cases h; omega
end Go.Trie
end
section
namespace Go.Proofs.YtfghidehlnfdiaaGreat
open Go Go.Vcg Go.Trie
section
variable {C:Type} {S:C→Prop} {w w':World} {lab lab':Nat→C} {c:C}
def brA (vs:Fin 16→Value) (o:Option Addr) (l k:Nat):Array Value:=(List.ofFn vs++[Value.slice o l k]).toArray
theorem brA_size (vs:Fin 16→Value) (o:Option Addr) (l k:Nat):(brA vs o l k).size=17:=by simp [brA]
theorem brA_at (vs:Fin 16→Value) (o:Option Addr) (l k:Nat) (i:Fin 16):(brA vs o l k)[i.val]?=some (vs i):=by
 unfold brA
 rw [List.getElem?_toArray,List.getElem?_append_left (by rw [List.length_ofFn]; exact i.isLt),List.getElem?_ofFn,dif_pos i.isLt]
theorem brA_val (vs:Fin 16→Value) (o:Option Addr) (l k:Nat):(brA vs o l k)[16]?=some (.slice o l k):=by
 unfold brA
 rw [List.getElem?_toArray,List.getElem?_append_right (by simp)]
 simp
end
end Go.Proofs.YtfghidehlnfdiaaGreat
end
section
namespace Go.Proofs.YtfghidehlnfdiaaGreat
open Go Go.Vcg Go.Trie
section
variable {C:Type} {S:C→Prop} {w w':World} {lab lab':Nat→C} {c:C}
def updV (vs:Fin 16→Value) (a:Nat) (v:Value):Fin 16→Value:=fun i=>if i.val=a then v else vs i
theorem brA_set (vs:Fin 16→Value) (o:Option Addr) (l k a:Nat) (ha:a < 16) (v:Value):(brA vs o l k).setIfInBounds a v=brA (updV vs a v) o l k:=by
 apply Array.ext_getElem?
 intro i
 rw [Array.getElem?_setIfInBounds,brA_size]
 by_cases hi:i < 16
 ·rw [brA_at (updV vs a v) o l k ⟨i,hi⟩,brA_at vs o l k ⟨i,hi⟩]
  unfold updV
  by_cases hai:a=i
  ·subst hai; rw [if_pos rfl,if_pos (by omega),if_pos rfl]
  ·rw [if_neg hai,if_neg (fun e=>hai e.symm)]
 ·by_cases h16:i=16
  ·subst h16
   rw [if_neg (by omega),brA_val,brA_val]
  ·rw [if_neg (by omega),Array.getElem?_eq_none (by rw [brA_size]; omega),Array.getElem?_eq_none (by rw [brA_size]; omega)]
end
end Go.Proofs.YtfghidehlnfdiaaGreat
end
section
namespace Go.Proofs.YtfghidehlnfdiaaGreat
open Go Go.Vcg Go.Trie
section
variable {C:Type} {S:C→Prop} {w w1 w':World} {lab lab':Nat→C} {c:C}
theorem fresh_cby {o:Option Addr} {l k:Nat} {bs:List UInt8} (F:Fresh w w1 tU8 1 o l k (bs.map bV)) (M:Vcg.Mod NoB w1 w'):CBy w' (ext lab w.heap.size c) c o bs :=
 ⟨F.own.bytes.mod' M,fun hne d hd=>ext_new (F.new d.block ⟨d,hd,rfl⟩)⟩
abbrev NoS {C:Type}:C→Prop:=fun _=>False
end
end Go.Proofs.YtfghidehlnfdiaaGreat
end
section
namespace Go.Proofs.YtfghidehlnfdiaaGreat
open Go Go.Vcg Go.Trie
section
variable {C:Type} {S:C→Prop} {w0 w w1 w':World} {lab lab':Nat→C} {c:C}
theorem ret3 {A A':Nat→Prop} {N:Nat} {x:It} {v1 v2 v3 a b d:Value} {R:Ending→World→Prop} (X:Blk w N 111 #[a,b,d]) (hI:ItC A w x v1 v2 v3) (hN:A N) (hA:∀b,A' b→A b)
 (hR:∀w',Vcg.Mod (·=N) w w'→ItC A' w' x v1 v2 v3→R (.returned (.agg #[v1,v2,v3])) w') :
 CanSet w ⟨N,0,none⟩ v1∧∀w1:World,IsSet w ⟨N,0,none⟩ v1 w1→CanSet w1 ⟨N,1,none⟩ v2∧∀w2:World,IsSet w1 ⟨N,1,none⟩ v2 w2→CanSet w2 ⟨N,2,none⟩ v3∧∀w3:World,IsSet w2 ⟨N,2,none⟩ v3 w3 →
  ∃b6:Bool,∃o7:Option Addr,∃l8:Nat,∃l9:Nat,∃o10:Option Addr,∃l11:Nat,∃l12:Nat,World.cell? w3 ⟨N,0,none⟩=some (.bool b6)∧World.cell? w3 ⟨N,1,none⟩=some (.slice o7 l8 l9)∧World.cell? w3 ⟨N,2,none⟩=some (.slice o10 l11 l12) ∧
  R (.returned (.agg #[(.bool b6),(.slice o7 l8 l9),(.slice o10 l11 l12)])) w3:=by
 obtain ⟨b7,p7,q7,r7,p8,q8,r8,rfl,rfl,rfl⟩:=hI.vals
 refine ⟨X.canSet (by simp) rfl,?_⟩
 rintro _ rfl
 have X7:=X.set 0 (.bool b7)
 have Q7:Vcg.Mod (·=N) w _:=Mod.setCell w ⟨N,0,none⟩ (.bool b7)
 refine ⟨X7.canSet (by simp) rfl,?_⟩
 rintro _ rfl
 have X8:=X7.set 1 (.slice p7 q7 r7)
 have Q8:=Q7.step_set (a:=⟨N,1,none⟩) (v:=.slice p7 q7 r7) (fun _=>rfl)
 refine ⟨X8.canSet (by simp) rfl,?_⟩
 rintro _ rfl
 have X9:=X8.set 2 (.slice p8 q8 r8)
 have Q9:=Q8.step_set (a:=⟨N,2,none⟩) (v:=.slice p8 q8 r8) (fun _=>rfl)
 exact ⟨_,_,_,_,_,_,_,X9.rd1 rfl,X9.rd1 rfl,X9.rd1 rfl,hR _ Q9 (ItC.mono hA x (ItC.modA Q9 (fun b h=>by subst h; exact hN) x hI))⟩
end
end Go.Proofs.YtfghidehlnfdiaaGreat
end
section
namespace Go.Proofs.YtfghidehlnfdiaaGreat
open Go Go.Vcg Go.Trie
section
variable {C:Type} {S:C→Prop} {A:Nat→Prop} {w0 w w1 w':World} {lab lab':Nat→C} {c:C}
mutual
theorem ItC.old {w:World}:∀(x:It) {v1 v2 v3:Value},ItC A w x v1 v2 v3→ItC (fun b=>A b∨w.heap.size≤b) w x v1 v2 v3
 | .s b,_,_,_,h=>by
   simp only [ItC] at h ⊢
   obtain ⟨h1,⟨o,c,h2,h3,h5⟩,h4⟩:=h
   refine ⟨h1,⟨o,c,h2,h3,fun hne d hd hh=>?_⟩,h4⟩
   rcases hh with hh | hh
   ·exact h5 hne d hd hh
   ·obtain ⟨e,f,ho,he,_⟩:=h3 hne
    rw [ho] at hd; cases hd
    exact absurd he (Nat.not_lt.2 hh)
 | .l xs,_,_,_,h=>by
   simp only [ItC] at h ⊢
   obtain ⟨h1,h2,o,c,h3,h4,h5⟩:=h
   exact ⟨h1,h2,o,c,h3,ItsC.old xs h4,h5⟩
theorem ItsC.old {w:World}:∀(xs:List It) {o:Option Addr} {k:Nat},ItsC A w xs o k→ItsC (fun b=>A b∨w.heap.size≤b) w xs o k
 | [],_,_,_=>by simp only [ItsC]
 | x :: r,_,_,h=>by
   simp only [ItsC] at h ⊢
   obtain ⟨⟨b,f,v1,v2,v3,ho,hb,hB,h1,h2,h3,h4⟩,h5⟩:=h
   exact ⟨⟨b,f,v1,v2,v3,ho,hb,fun hh=>hh.elim hB (fun hh=>absurd hb (Nat.not_lt.2 hh)),h1,h2,h3,ItC.old x h4⟩,ItsC.old r h5⟩
end
theorem its_of:∀(xs:List It) (k:Nat) {o:Option Addr},(∀j (hj:j < xs.length),∃g v1 v2 v3,o=some ⟨g,0,none⟩∧g < w.heap.size∧¬A g∧w.cell? ⟨g,(k+j) * 3,none⟩=some v1∧w.cell? ⟨g,(k+j) * 3+1,none⟩=some v2∧w.cell? ⟨g,(k+j) * 3+2,none⟩=some v3∧ItC A w xs[j] v1 v2 v3)→ItsC A w xs o k
 | [],_,_,_=>by simp only [ItsC]
 | x :: r,k,o,h=>by
   simp only [ItsC]
   constructor
   ·obtain ⟨g,v1,v2,v3,a,b,d,e,f,h5,h6⟩:=h 0 (by simp)
    rw [Nat.add_zero] at e f h5
    exact ⟨g,0,v1,v2,v3,a,b,d,by rw [Nat.zero_add]; exact e,by rw [Nat.zero_add]; exact f,by rw [Nat.zero_add]; exact h5,h6⟩
   ·refine its_of r (k+1) (fun j hj=>?_)
    obtain ⟨g,v1,v2,v3,a,b,d,e,f,h5,h6⟩:=h (j+1) (by simpa using hj)
    rw [show k+(j+1)=k+1+j by omega] at e f h5
    exact ⟨g,v1,v2,v3,a,b,d,e,f,h5,h6⟩
end
end Go.Proofs.YtfghidehlnfdiaaGreat
end
section
namespace Go.Proofs.YtfghidehlnfdiaaGreat
open Go Go.Vcg Go.Trie
section
variable {C C':Type} {S:C→Prop} {w0 w w1 w':World} {lab lab2:Nat→C} {lab':Nat→C'} {c:C} {c':C'}
theorem CBy.re {o:Option Addr} {bs:By} (h:CBy w lab c o bs) (hl:∀k,k < w.heap.size→lab k=c→lab' k=c'):CBy w lab' c' o bs:=by
 refine ⟨h.rd,fun hne d hd=>?_⟩
 obtain ⟨b,f,ho,hb,_⟩:=h.rd hne
 rw [ho] at hd; cases hd
 exact hl _ hb (h.clr hne _ ho)
theorem nib_nibbles (k:By):Nib (nibbles k):=by
 intro x hx
 obtain ⟨a,_,ha⟩:=List.mem_flatMap.1 hx
 have h1:(a >>> 4).toNat < 16:=by
  have:∀n:Fin 256,(UInt8.ofFin n >>> 4).toNat < 16:=by decide +kernel
  exact this a.toFin
 have h2:(a &&& 15).toNat < 16:=by
  have:∀n:Fin 256,(UInt8.ofFin n &&& 15).toNat < 16:=by decide +kernel
  exact this a.toFin
 simp only [List.mem_cons,List.mem_nil_iff,or_false] at ha
 rcases ha with rfl | rfl
 ·exact h1
 ·exact h2
def says (r:Option By):By×Bool:=match r with
 | some v=>(v,true)
 | none=>([],false)
end
end Go.Proofs.YtfghidehlnfdiaaGreat
end
section
namespace Go.Trie
end Go.Trie
namespace Go.Trie
end Go.Trie
namespace Go.Proofs.YtfghidehlnfdiaaGreat
open Go Go.Vcg Go.Trie
section
variable {C:Type} {S:C→Prop} {w0 w w1 w':World} {lab lab2:Nat→C} {c:C}
theorem Stp.same {C:Type} {w w':World} (M:Vcg.Mod NoB w w') (L:Nat→C):Stp NoS w L w' L:=⟨M.os,M.tape,M.output,M.size,fun _ _=>rfl,fun k hk _=>M.block k hk (fun h=>h)⟩
end
end Go.Proofs.YtfghidehlnfdiaaGreat
end
