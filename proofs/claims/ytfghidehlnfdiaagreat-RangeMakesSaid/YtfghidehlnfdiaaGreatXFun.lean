/- Loads, and what else only reads. -/
/- What changes the world, or calls. -/
/- Regions, control, functions. -/
/- Loops, code, functions. -/
import Derived.Test.YtfghidehlnfdiaaGreatXPure2
set_option linter.unusedVariables false
set_option linter.unusedSimpArgs false
section
namespace Go.Vcg
variable {P:Program} {R:Z6N}

theorem map_some {α β:Type} {o:Option α} {f:α→β} {r:β} (h:o.map f=some r):∃a,o=some a∧f a=r:=by
 cases o with
 | none=>cases h
 | some a=>exact ⟨a,rfl,by simpa using h⟩

theorem ZDK {x:SV pC} {most:Nat} {k:Nat→Prop} {r:Prop} (h:ZDk (pA P R) x most k=some r) (hr:r) (code:BoundsCode) :
  ∃n,(∀w,(Instr.sliceBound (toV x) most code).run P w=.ok n w)∧n≤most∧k n:=by
 unfold ZDk at h
 split at h
 ·rename_i n
  split at h
  ·rename_i h0
   cases h
   obtain ⟨h1,hk⟩:=hr
   have h1:n.toNat≤most:=h1
   refine ⟨n.toNat,fun w=>?_,h1,hk⟩
   simp only [Instr.sliceBound,toV,asIntOf,Sem.run_bind,Sem.run_pure,Result.andThen_ok]
   rw [if_pos ⟨h0,by omega⟩]
   rfl
  ·cases h
 ·rename_i n
  cases h
  obtain ⟨⟨h0,h1⟩,hk⟩:=hr
  refine ⟨Int.toNat n,fun w=>?_,Int.toNat_le.2 h1,hk⟩
  simp only [Instr.sliceBound,toV,asIntOf,Sem.run_bind,Sem.run_pure,Result.andThen_ok]
  rw [if_pos ⟨h0,h1⟩]
  rfl
 ·cases h

theorem Z5k {k:IntKind} {n:Int} {most:Nat} (h0:0≤n) (h1:n.toNat≤most) (code:BoundsCode) (w:World) :
  (Instr.sliceBound (.int k n) most code).run P w=.ok n.toNat w:=by
 simp only [Instr.sliceBound,asIntOf,Sem.run_bind,Sem.run_pure,Result.andThen_ok]
 rw [if_pos ⟨h0,by omega⟩]
 rfl
theorem Z9O {k:IntKind} {n:Int} {most:Nat} (h:0≤n∧n≤(most:Nat)) (code:BoundsCode) (w:World) :
  (Instr.sliceBound (.int k n) most code).run P w=.ok n.toNat w:=by
 simp only [Instr.sliceBound,asIntOf,Sem.run_bind,Sem.run_pure,Result.andThen_ok]
 rw [if_pos h]
 rfl

theorem Z9B {hi:Option (SV pC)} {dflt most:Nat} {low:Nat→Option Prop} {r:Prop} (code:BoundsCode) (h:hiS (pA P R) hi dflt most low=some r) (hr:r) :
  ∃n r',(∀w,(match hi.map toV with
   | some v=>Instr.sliceBound v most code
   | none=>pure dflt:Sem Nat).run P w=.ok n w)∧low n=some r'∧r'∧(hi=none∧n=dflt∨n≤most):=by
 unfold hiS at h
 split at h
 ·exact ⟨dflt,r,fun w=>rfl,h,hr,.inl ⟨rfl,rfl⟩⟩
 ·rename_i k n
  split at h
  ·rename_i h0
   obtain ⟨r',hl,rfl⟩:=map_some h
   obtain ⟨h1,hr⟩:=hr
   have h1:n.toNat≤most:=h1
   exact ⟨n.toNat,r',fun w=>Z5k h0 h1 code w,hl,hr,.inr h1⟩
  ·cases h
 ·rename_i k n
  obtain ⟨r',hl,rfl⟩:=map_some h
  obtain ⟨h1,hr⟩:=hr
  exact ⟨Int.toNat n,r',fun w=>Z9O h1 code w,hl,hr,.inr (Int.toNat_le.2 h1.2)⟩
 ·cases h

theorem Z9E {lo:Option (SV pC)} {hgh:Nat} {k0:Prop} {k:Nat→Prop} {r:Prop} (code:BoundsCode) (h:loS (pA P R) lo hgh k0 k=some r) (hr:r) :
  ∃n,(∀w,(match lo.map toV with
   | some v=>Instr.sliceBound v hgh code
   | none=>pure 0:Sem Nat).run P w=.ok n w)∧n≤hgh∧((n=0∧k0)∨k n):=by
 unfold loS at h
 split at h
 ·cases h; exact ⟨0,fun w=>rfl,Nat.zero_le _,.inl ⟨rfl,hr⟩⟩
 ·cases h
  exact ⟨0,fun w=>Z5k (n:=0) (by omega) (by simp) code w,Nat.zero_le _,.inl ⟨rfl,hr⟩⟩
 ·obtain ⟨n,h1,h2,h3⟩:=ZDK h hr code
  exact ⟨n,h1,h2,.inr h3⟩

theorem Z38 {isS:Bool} {len cap:Nat} {lo hi:Option Value} {h l:Nat} {w:World}
  (hh:(match hi with
    | some v=>Instr.sliceBound v cap (if isS then .sliceAcap else .sliceAlen)
    | none=>pure len:Sem Nat).run P w=.ok h w)
  (hl:(match lo with
    | some v=>Instr.sliceBound v h .sliceB
    | none=>pure 0:Sem Nat).run P w=.ok l w) :
  (Instr.sliceBounds isS len cap lo hi none).run P w=.ok (l,h,cap) w:=by
 unfold Instr.sliceBounds
 cases hi with
 | none =>
   have:len=h:=by simpa using hh
   subst this
   cases lo with
   | none =>
     have:0=l:=by simpa using hl
     subst this
     rfl
   | some v=>simp at hl ⊢; simp [hl]
 | some u =>
   cases lo with
   | none =>
     have:0=l:=by simpa using hl
     subst this
     simp at hh ⊢; simp [hh]
   | some v=>simp at hh hl ⊢; simp [hh,hl]
end Go.Vcg
end
section
namespace Go.Vcg
variable {P:Program} {R:Z6N}

theorem ZU {o:Oper} {ρ:Operand→Value} {s:Sem Value} {v:Value} {w w':World} (ho:execOp ρ o=(do pure (.value (← s)))) (h:s.run P w=.ok v w') :
  (execOp ρ o).run P w=.ok (.value v) w':=by
 rw [ho]; simp [h]

theorem Z3T (d:Addr):d.add 0=d:=by simp [Addr.add]
theorem ZAO (o:Option Addr):o.map (fun d=>d.add 0)=o:=by cases o <;> simp [Z3T]

theorem ZBj {t:TypeId} {x:SV pC} {lo hi:Option (SV pC)} {k:SV pC→Prop} {r:Prop} (h:ZEo (pA P R) P t x lo hi k=some r) (hr:r) :
  ∃sv,(∀w,(Instr.sliceAt t (toV x) (lo.map toV) (hi.map toV) none).run P w=.ok (toV sv) w)∧k sv:=by
 unfold ZEo at h
 split at h
 ·-- a slice
  rename_i e ol len cap hu
  have hu:=Z1h hu (by simp)
  split at h
  ·rename_i hsz
   obtain ⟨i,hi'⟩:=Option.isSome_iff_exists.1 hsz
   obtain ⟨hh,r',hh1,hh2,hr',hh3⟩:=Z9B (P:=P) (R:=R) .sliceAcap h hr
   obtain ⟨l,hl1,hl2,hl3⟩:=Z9E (P:=P) (R:=R) .sliceB hh2 hr'
   have hrun:∀w,(Instr.sliceAt t (toV (.slice ol len cap)) (lo.map toV) (hi.map toV) none).run P w=.ok (.slice (if cap=l then ol else Option.map (·.add (l * Z0i P e)) ol) (hh - l) (cap - l)) w:=by
    intro w
    unfold Instr.sliceAt
    simp only [Sem.run_bind,Zp hu,Result.andThen_ok,toV]
    unfold Instr.slice
    simp only [Sem.run_bind,Zp hu,Result.andThen_ok]
    rw [Z38 (isS:=true) (hh1 w) (hl1 w)]
    simp only [Result.andThen_ok,Z0v hi',Sem.run_pure]
   rcases hl3 with ⟨rfl,hk⟩ | hk
   ·refine ⟨_,fun w=>?_,hk⟩
    rw [hrun w]
    simp only [toV,Nat.zero_mul,Nat.sub_zero,ZAO,ite_self]
   ·refine ⟨_,fun w=>?_,hk⟩; exact hrun w
  ·cases h
 ·rename_i n e d hu
  have hu:=Z1h hu (by simp)
  split at h
  ·rename_i hsz
   obtain ⟨i,hi'⟩:=Option.isSome_iff_exists.1 hsz
   obtain ⟨hh,r',hh1,hh2,hr',hh3⟩:=Z9B (P:=P) (R:=R) (dflt:=n) (most:=n) .sliceAlen h hr
   obtain ⟨l,hl1,hl2,hl3⟩:=Z9E (P:=P) (R:=R) .sliceB hh2 hr'
   have hrun:∀w,(Instr.sliceAt t (toV (.addr d)) (lo.map toV) (hi.map toV) none).run P w=.ok (.slice (some (if n=l then d else Addr.add d (l * Z0i P e))) (hh - l) (n - l)) w:=by
    intro w
    unfold Instr.sliceAt
    simp only [Sem.run_bind,Zp hu,Result.andThen_ok,toV,Instr.sureAddr,Sem.run_pure]
    rw [Z38 (isS:=false) (hh1 w) (hl1 w)]
    simp only [Result.andThen_ok,Z0v hi',Sem.run_pure]
   rcases hl3 with ⟨rfl,hk⟩ | hk
   ·refine ⟨_,fun w=>?_,hk⟩
    rw [hrun w]
    simp only [toV,Nat.zero_mul,Nat.sub_zero,Z3T,ite_self]
    rfl
   ·refine ⟨_,fun w=>?_,hk⟩; exact hrun w
  ·cases h
 ·rename_i s hu
  have hu:=Z1h hu (by simp)
  obtain ⟨hh,r',hh1,hh2,hr',hh3⟩:=Z9B (P:=P) (R:=R) (dflt:=ByteArray.size s) (most:=ByteArray.size s) .sliceAlen h hr
  obtain ⟨l,hl1,hl2,hl3⟩:=Z9E (P:=P) (R:=R) .sliceB hh2 hr'
  have hrun:∀w,(Instr.sliceAt t (toV (.str s)) (lo.map toV) (hi.map toV) none).run P w=.ok (.string (ByteArray.extract s l hh)) w:=by
   intro w
   unfold Instr.sliceAt
   simp only [Sem.run_bind,Zp hu,Result.andThen_ok,toV]
   unfold Instr.slice
   simp only [Sem.run_bind,Zp hu,Result.andThen_ok]
   simp only [Option.isSome_none,Bool.false_eq_true,if_false,Sem.run_bind,Sem.run_pure,Result.andThen_ok]
   rw [Z38 (isS:=false) (hh1 w) (hl1 w)]
   simp only [Result.andThen_ok,Sem.run_pure]
  rcases hl3 with ⟨rfl,hk⟩ | hk
  ·refine ⟨_,fun w=>?_,hk⟩; exact hrun w
  ·refine ⟨_,fun w=>?_,hk⟩; exact hrun w
 ·cases h
end Go.Vcg
end
section
namespace Go.Vcg
variable {P:Program} {R:Z6N}

theorem Z8C {d:Addr} {f:Field} {i:TypeInfo} (hi:P.info? f.type=some i) (h:Z0i P f.type≠0) (w:World):(fieldPlace d f).run P w=.ok (d.add f.offset) w:=by
 unfold fieldPlace
 simp only [Sem.run_bind,Z0v hi,Result.andThen_ok]
 rw [if_neg h]
 rfl

theorem ZD0 {x:SV pC} {k:IntKind} {n:Int} (h:asI (pA P R) x=some (k,n)):toV x=.int k n:=Z8y rfl h

theorem ZB6 {t:TypeId} {parts:Array (Nat×Operand)} {ev:Operand→SV pC} {k:SV pC→Prop} {r:Prop} {o:Oper} (ho:o.op=.build t parts) (h:Z1g (pA P R) P o ev k=some r) (hr:r) :
  ∃sv,(∀w,(Instr.build t (parts.map fun (i,x)=>(i,toV (ev x)))).run P w=.ok (toV sv) w)∧k sv:=by
 unfold Z1g at h
 simp only [ho] at h
 split at h
 ·rename_i cs place hz hp
  have hbuilt:∀(ps:List (Nat×Value)),P.built t ps=Instr.fill place cs ps:=by
   intro ps
   unfold ZEU at hp
   unfold Z4x at hz
   unfold Program.built
   cases hi:P.info? t with
   | none=>rw [hi] at hz; cases hz
   | some it =>
     rw [hi] at hz
     simp only [Option.bind_some] at hz
     split at hp
     ·rename_i n e hu
      cases he:P.info? e with
      | none=>rw [he] at hp; cases hp
      | some ie=>rw [he] at hp; cases hp; simp [hu,hz,he,Value.cells]
     ·rename_i fields hu
      cases hm:fields.toList.mapM (fun f=>(P.info? f.type).map fun i=>(f.offset,i.size)) with
      | none=>rw [hm] at hp; cases hp
      | some places=>rw [hm] at hp; cases hp; simp [hu,hz,hm,Value.cells]
     ·cases hp
  have hl:(parts.map fun (i,x)=>(i,toV (ev x))).toList=parts.toList.map fun (i,x)=>(i,toV (ev x)):=by simp
  split at h
  ·obtain ⟨l,hb,rfl⟩:=map_some h
   obtain ⟨hrw,hk⟩:=Z33 _ _ hr
   have:=Z2g (place:=place) (ev:=ev) parts.toList _ l hrw hb
   refine ⟨_,fun w=>run_build w t _ _ ?_,hk⟩
   rw [hbuilt,hl]
   have e:(toVs (List.map (Z2j (pA P R)) cs.toList)).toArray=cs:=by
    rw [Z1i,List.map_map]
    have:(toV ∘ Z2j (pA P R))=id:=funext fun v=>Z2O v
    rw [this]; simp
   rw [e] at this
   exact this
  ·obtain ⟨r',hb,rfl⟩:=map_some h
   obtain ⟨hrw,hk⟩:=Z33 _ _ hr
   obtain ⟨out,ho',hk'⟩:=Z2W (place:=place) (ev:=ev) (n:=cs.size) parts.toList cs r' hrw rfl hb hk
   refine ⟨_,fun w=>run_build w t _ out ?_,hk'⟩
   rw [hbuilt,hl]
   exact ho'
 ·cases h

theorem Z6a {o:Oper} {env:Env pC} {a:Act} (hrep:Rep env a) {k:SV pC→Prop} {r:Prop} (h:Z1g (pA P R) P o (ev (pA P R) env) k=some r) (hr:r) :
  ∃sv,(∀w,(execOp a.eval o).run P w=.ok (.value (toV sv)) w)∧k sv:=by
 have hev:∀x,a.eval x=toV (ev (pA P R) env x):=fun x=>hrep.eval x
 obtain ⟨dst,op,ty,pos,after,guard⟩:=o
 cases op with
 | move x=>cases h; exact ⟨_,fun w=>by simp [execOp,hev],hr⟩
 | assign x=>cases h; exact ⟨_,fun w=>by simp [execOp,hev],hr⟩
 | pick c x y =>
   simp only [Z1g] at h
   split at h
   ·rename_i t hc
    cases h
    refine ⟨_,fun w=>?_,hr⟩
    simp only [execOp,hev,hc,toV,asBool]
    cases t <;> rfl
   ·rename_i b hc
    cases h
    obtain ⟨h1,h2⟩:=hr
    cases hb:den b with
    | true =>
      refine ⟨_,fun w=>?_,Z2y _ _ _ h1 hb⟩
      simp only [execOp,hev,hc,toV,asBool,hb]; rfl
    | false =>
      refine ⟨_,fun w=>?_,Z2y _ _ _ h2 hb⟩
      simp only [execOp,hev,hc,toV,asBool,hb]; rfl
   ·cases h
 | build t parts =>
   obtain ⟨sv,h1,h2⟩:=ZB6 rfl h hr
   refine ⟨sv,fun w=>ZU (s:=Instr.build t (parts.map fun (i,x)=>(i,a.eval x))) rfl ?_,h2⟩
   have:(parts.map fun (i,x)=>(i,a.eval x))=parts.map fun (i,x)=>(i,toV (ev (pA P R) env x)):=by simp only [hev]
   rw [this]
   exact h1 w
 | nilCheck x =>
   simp only [Z1g] at h
   split at h
   ·rename_i d hx; cases h; exact ⟨_,fun w=>by simp [execOp,hev,hx,toV],hr⟩
   ·rename_i o hx
    cases h
    obtain ⟨d,hd,hk⟩:=hr
    have hd:(o:Option Addr)=some d:=hd
    subst hd
    exact ⟨_,fun w=>by simp [execOp,hev,hx,toV],hk⟩
   ·rename_i f a b hx; cases h; exact ⟨_,fun w=>by simp [execOp,hev,hx,toV],hr⟩
   ·rename_i t v hx; cases h; exact ⟨_,fun w=>by simp [execOp,hev,hx,toV],hr⟩
   ·rename_i v hx
    cases h
    obtain ⟨⟨t,u,hv⟩,hk⟩:=hr
    have hv:(v:Value)=.iface t u:=hv
    subst hv
    exact ⟨_,fun w=>by simp [execOp,hev,hx,toV],hk⟩
   ·rename_i m v hx
    cases h
    obtain ⟨⟨t,u,hv,hn⟩,hk⟩:=hr
    have hv:(v:Value)=.iface t u:=hv
    subst hv
    refine ⟨_,fun w=>?_,hk⟩
    have e:(some (some false) != some (some false))=false:=rfl
    simp [execOp,hev,hx,toV,toVs,hn w]
   ·cases h
 | binOp op t x y yt =>
   have hex:∀v w,(Z0q op t x y (toV (ev (pA P R) env x)) (toV (ev (pA P R) env y))).run P w=.ok v w →
     (execOp a.eval ⟨dst,.binOp op t x y yt,ty,pos,after,guard⟩).run P w=.ok (.value v) w:=by
    intro v w hs
    refine ZU (s:=Z0q op t x y (a.eval x) (a.eval y)) rfl ?_
    rw [hev,hev]; exact hs
   simp only [Z1g] at h
   split at h
   ·rename_i r' hb
    cases h
    obtain ⟨sv,h1,h2⟩:=ZD2 hb hr
    exact ⟨sv,fun w=>hex _ w (h1 w t x y),h2⟩
   ·cases hu:P.underlying t with
    | none =>
      have:und P t=.invalid:=by simp [und,hu]
      rw [this] at h
      unfold nilS at h
      cases op <;> simp [ZFT] at h
    | some d =>
      have:und P t=d:=by simp [und,hu]
      rw [this] at h
      obtain ⟨sv,h1,h2⟩:=ZDE hu h hr
      exact ⟨sv,fun w=>hex _ w (h1 w),h2⟩
 | unOp op t x =>
   simp only [Z1g] at h
   split at h
   ·rename_i b hx; cases h; refine ⟨_,fun w=>ZU (s:=Op.unary .not (a.eval x)) rfl ?_,hr⟩; rw [hev,hx]; rfl
   ·rename_i b hx; cases h; refine ⟨_,fun w=>ZU (s:=Op.unary .not (a.eval x)) rfl ?_,hr⟩; rw [hev,hx]; rfl
   ·rename_i ka n hx; cases h; refine ⟨_,fun w=>ZU (s:=Op.unary .neg (a.eval x)) rfl ?_,hr⟩; rw [hev,hx]; rfl
   ·rename_i ka n hx; cases h; refine ⟨_,fun w=>ZU (s:=Op.unary .neg (a.eval x)) rfl ?_,hr⟩; rw [hev,hx]; rfl
   ·rename_i ka n hx; cases h; refine ⟨_,fun w=>ZU (s:=Op.unary .xor (a.eval x)) rfl ?_,hr⟩; rw [hev,hx]; rfl
   ·cases h
 | convert src d x =>
   simp only [Z1g] at h
   split at h
   ·cases h
   ·rename_i hsrc
    obtain ⟨ds,hs⟩:∃ds,P.underlying src=some ds:=by
     cases hs:P.underlying src with
     | none=>rw [hs] at hsrc; exact absurd rfl hsrc
     | some ds=>exact ⟨ds,rfl⟩
    split at h
    ·rename_i kd k' n hu hx
     cases h
     have hu:=Z1h hu (by simp)
     refine ⟨_,fun w=>ZU (s:=convert src d (a.eval x)) rfl ?_,hr⟩
     rw [hev,hx]
     unfold convert
     simp only [Sem.run_bind,Zp hs,Zp hu,Result.andThen_ok,toV]
     rfl
    ·rename_i kd k' n hu hx
     cases h
     have hu:=Z1h hu (by simp)
     refine ⟨_,fun w=>ZU (s:=convert src d (a.eval x)) rfl ?_,hr⟩
     rw [hev,hx]
     unfold convert
     simp only [Sem.run_bind,Zp hs,Zp hu,Result.andThen_ok,toV]
     rfl
    ·rename_i s hu hx
     have hu:=Z1h hu (by simp)
     split at h
     ·rename_i hs'
      have hs':=Z1h hs' (by simp)
      cases h
      refine ⟨_,fun w=>ZU (s:=convert src d (a.eval x)) rfl ?_,hr⟩
      rw [hev,hx]
      unfold convert
      simp only [Sem.run_bind,Zp hs',Zp hu,Result.andThen_ok,toV]
      rfl
     ·cases h
    ·cases h
 | makeInterface t x =>
   simp only [Z1g] at h
   split at h
   ·cases h
   ·cases h
   ·rename_i h1 h2
    cases h
    have hu:P.underlying t=some (und P t):=Z1h rfl h2
    refine ⟨_,fun w=>ZU (s:=Instr.makeInterface t (a.eval x)) rfl ?_,hr⟩
    rw [hev]
    unfold Instr.makeInterface
    simp only [Sem.run_bind,Zp hu,Result.andThen_ok,toV]
    cases hd:und P t <;> first
     | rfl
     | exact absurd hd (h1 _)
 | makeFunc fn first cap =>
   simp only [Z1g] at h
   cases h
   refine ⟨_,fun w=>ZU (s:=Instr.makeFunc fn (first.map a.eval) (cap.map a.eval)) rfl ?_,hr⟩
   have:∀xs:Array Operand,xs.map a.eval=(toVs (xs.toList.map (ev (pA P R) env))).toArray:=by
    intro xs
    rw [Z1i,List.map_map]
    have:toV ∘ ev (pA P R) env=a.eval:=funext fun x=>(hev x).symm
    rw [this]; exact Array.ext' (by simp)
   rw [this,this]
   rfl
 | slice t x lo hi mx =>
   simp only [Z1g] at h
   cases mx with
   | some m=>cases h
   | none =>
     obtain ⟨sv,h1,h2⟩:=ZBj h hr
     refine ⟨sv,fun w=>ZU (s:=Instr.sliceAt t (a.eval x) (lo.map a.eval) (hi.map a.eval) none) rfl ?_,h2⟩
     have e:∀z:Option Operand,z.map a.eval=(z.map (ev (pA P R) env)).map toV:=by
      intro z; cases z <;> simp [hev]
     rw [e,e,hev]
     exact h1 w
 | fieldAddr s x f =>
   simp only [Z1g] at h
   split at h
   ·rename_i d fs hx hu
    have hu:=Z1h hu (by simp)
    split at h
    ·rename_i fd hf
     split at h
     ·cases h
     ·rename_i hne
      split at h
      ·cases h
      ·rename_i hsome
       cases h
       obtain ⟨du,hdu⟩:∃du,P.underlying fd.type=some du:=by
        cases hs:P.underlying fd.type with
        | none=>rw [hs] at hsome; exact absurd rfl hsome
        | some ds=>exact ⟨ds,rfl⟩
       obtain ⟨i,hi⟩:=Z3o hdu
       refine ⟨_,fun w=>ZU (s:=Instr.fieldAt s (a.eval x) f) rfl ?_,hr⟩
       rw [hev,hx]
       unfold Instr.fieldAt
       simp only [Sem.run_bind,Zp hu,Result.andThen_ok,hf,toV,Instr.sureAddr,Sem.run_pure,Z8C hi hne]
       by_cases h0:fd.offset=0
       ·rw [if_pos h0,h0,Z3T]
       ·rw [if_neg h0]; rfl
    ·cases h
   ·cases h
 | field s x f =>
   simp only [Z1g] at h
   split at h
   ·rename_i fs hu
    have hu:=Z1h hu (by simp)
    split at h
    ·rename_i fd hf
     split at h
     ·cases h
     ·rename_i hsome
      have hd:∃du,P.underlying fd.type=some du:=by
       cases hs:P.underlying fd.type with
       | none=>rw [hs] at hsome; exact absurd rfl hsome
       | some ds=>exact ⟨ds,rfl⟩
      obtain ⟨sv,⟨cs,hc,h1⟩,h2⟩:=Z7e hd h hr
      refine ⟨sv,fun w=>ZU (s:=Instr.field s (a.eval x) f) rfl ?_,h2⟩
      rw [hev,hc]
      unfold Instr.field
      simp only [Sem.run_bind,Zp hu,Result.andThen_ok,hf,asAgg,Sem.run_pure,h1]
    ·cases h
   ·cases h
 | indexAddr t x i =>
   simp only [Z1g] at h
   split at h
   ·rename_i e o len cap hu hx
    have hu:=Z1h hu (by simp)
    split at h
    ·rename_i kk n hi
     split at h
     ·cases h
     ·rename_i hsome
      obtain ⟨ie,hie⟩:∃ie,P.info? e=some ie:=by
       cases hs:P.info? e with
       | none=>rw [hs] at hsome; exact absurd rfl hsome
       | some ds=>exact ⟨ds,rfl⟩
      cases h
      obtain ⟨d,hd,hn,hk⟩:=hr
      have hd:(o:Option Addr)=some d:=hd
      subst hd
      refine ⟨_,fun w=>ZU (s:=Instr.indexAt t (a.eval x) (a.eval i)) rfl ?_,hk⟩
      rw [hev,hev,hx,ZD0 hi]
      unfold Instr.indexAt
      have hn:0≤n∧n < ((len:Nat):Int):=hn
      simp only [Sem.run_bind,asIntOf,Sem.run_pure,Result.andThen_ok,Zp hu,toV,if_pos hn,Z0v hie]
      have:Addr.add d (Int.toNat n * Z0i P e)=Addr.add d (Z1g.idx (pA P R) (Z0i P e) (ev (pA P R) env i) n):=by
       congr 1
       unfold Z1g.idx
       split
       ·rename_i k c hc
        rw [hc] at hi
        cases hi
        rfl
       ·split
        ·rename_i h1; rw [h1]; simp [pA]
        ·rfl
      rw [this]
      rfl
    ·cases h
   ·rename_i m e d hu hx
    have hu:=Z1h hu (by simp)
    split at h
    ·cases h
    ·rename_i hsome
     obtain ⟨ie,hie⟩:∃ie,P.info? e=some ie:=by
      cases hs:P.info? e with
      | none=>rw [hs] at hsome; exact absurd rfl hsome
      | some ds=>exact ⟨ds,rfl⟩
     split at h
     ·rename_i kk n hi
      split at h
      ·rename_i hn
       cases h
       refine ⟨_,fun w=>ZU (s:=Instr.indexAt t (a.eval x) (a.eval i)) rfl ?_,hr⟩
       rw [hev,hev,hx,hi]
       unfold Instr.indexAt
       simp only [Sem.run_bind,asIntOf,Sem.run_pure,Result.andThen_ok,Zp hu,toV,Instr.sureAddr,if_pos hn,Z0v hie]
       by_cases h0:n=0
       ·rw [if_pos h0,h0]; simp [Z3T]
       ·rw [if_neg h0]; rfl
      ·cases h
     ·rename_i kk n hi
      cases h
      obtain ⟨hn,hk⟩:=hr
      have hn:0≤n∧n < ((m:Nat):Int):=hn
      refine ⟨_,fun w=>ZU (s:=Instr.indexAt t (a.eval x) (a.eval i)) rfl ?_,hk⟩
      rw [hev,hev,hx,hi]
      unfold Instr.indexAt
      simp only [Sem.run_bind,asIntOf,Sem.run_pure,Result.andThen_ok,Zp hu,toV,Instr.sureAddr,if_pos hn,Z0v hie]
      by_cases h1:Z0i P e=1
      ·rw [if_pos h1,h1,Nat.mul_one]; rfl
      ·rw [if_neg h1]; rfl
     ·cases h
   ·cases h
 | index t x i =>
   simp only [Z1g] at h
   split at h
   ·rename_i v m e kk n hu hi
    have hu:=Z1h hu (by simp)
    split at h
    ·cases h
    ·rename_i hsome
     have hd:∃du,P.underlying e=some du:=by
      cases hs:P.underlying e with
      | none=>rw [hs] at hsome; exact absurd rfl hsome
      | some ds=>exact ⟨ds,rfl⟩
     split at h
     ·rename_i hn
      obtain ⟨du,hdu⟩:=hd
      obtain ⟨ie,hie⟩:=Z3o hdu
      obtain ⟨sv,⟨cs,hc,h1⟩,h2⟩:=Z7e ⟨du,hdu⟩ h hr
      refine ⟨sv,fun w=>ZU (s:=Instr.index t (a.eval x) (a.eval i)) rfl ?_,h2⟩
      rw [hev,hev,hc,hi]
      unfold Instr.index
      simp only [Sem.run_bind,asIntOf,Sem.run_pure,Result.andThen_ok,Zp hu,toV,if_pos hn,Z0v hie,h1]
     ·cases h
   ·rename_i i' s hu hx
    have hu:=Z1h hu (by simp)
    split at h
    ·rename_i kk n hi
     cases h
     obtain ⟨hn,hk⟩:=hr
     have hn:0≤n∧n < ((ByteArray.size s:Nat):Int):=hn
     refine ⟨_,fun w=>ZU (s:=Instr.index t (a.eval x) (a.eval i)) rfl ?_,hk⟩
     rw [hev,hev,hx,ZD0 hi]
     unfold Instr.index
     simp only [Sem.run_bind,asIntOf,Sem.run_pure,Result.andThen_ok,Zp hu,toV]
     have hlt:Int.toNat n < ByteArray.size s:=(Int.toNat_lt hn.1).2 hn.2
     rw [if_pos hn.1]
     have hg:s[Int.toNat n]?=some (s[Int.toNat n]'hlt):=by simp [hlt]
     simp only [hg,Sem.run_pure]
     show _=Result.ok (Value.int .u8 (strAt s (Int.toNat n))) w
     simp only [strAt,hg,Option.map_some,Option.getD_some]
    ·cases h
   ·cases h
 | extract x i =>
   simp only [Z1g] at h
   split at h
   ·rename_i vs hx
    obtain ⟨v,hv,rfl⟩:=map_some h
    refine ⟨v,fun w=>ZU (s:=Instr.extract (a.eval x) i) rfl ?_,hr⟩
    rw [hev,hx]
    simp [Instr.extract,toV,toVs_getElem?,hv]
   ·cases h
 | sliceToArrayPointer t x =>
   simp only [Z1g] at h
   split at h
   ·rename_i n e o len cap hu hx
    have hu:=Z1h hu (by simp)
    cases h
    obtain ⟨h1,hk⟩:=hr
    have h1:n≤(len:Nat):=h1
    refine ⟨_,fun w=>ZU (s:=Instr.arrayAt t (a.eval x)) rfl ?_,hk⟩
    rw [hev,hx]
    unfold Instr.arrayAt
    simp only [Sem.run_bind,Zp hu,Result.andThen_ok,toV]
    rw [if_neg (Nat.not_lt.2 h1)]
    rfl
   ·cases h
 | call c =>
   simp only [Z1g] at h
   obtain ⟨callee,args,ats⟩:=c
   have hargs:∀l,args.toList=l→args=l.toArray:=fun l hl=>by rw [← hl]
   split at h
   ·-- len
    rename_i x t hc ha ht
    subst hc
    obtain rfl:=hargs _ ha
    have ht':ats=#[t]:=by rw [← Array.toList_inj]; exact ht
    subst ht'
    have key:∀v,(∀w,(Builtin.len_ #[t] ty #[toV (ev (pA P R) env x)]).run P w=.ok v w)→∀w,(execOp a.eval ⟨dst,.call ⟨.builtin .len,[x].toArray,#[t]⟩,ty,pos,after,guard⟩).run P w=.ok (.value v) w:=by
     intro v hv w
     have:=hv w
     simp [execOp,resolve,invoke,builtin,hev,this]
    split at h
    ·rename_i e o l cap hu hx
     have hu:=Z1h hu (by simp)
     cases h
     refine ⟨_,key _ fun w=>?_,hr⟩
     rw [hx]
     simp [Builtin.len_,Zp hu,toV,goInt]
     rfl
    ·rename_i s hu hx
     have hu:=Z1h hu (by simp)
     cases h
     refine ⟨_,key _ fun w=>?_,hr⟩
     rw [hx]
     simp [Builtin.len_,Zp hu,toV,goInt]
     rfl
    ·rename_i n e hu
     have hu:=Z1h hu (by simp)
     cases h
     refine ⟨_,key _ fun w=>?_,hr⟩
     simp [Builtin.len_,Zp hu,toV,goInt]
    ·cases h
   ·rename_i x t hc ha ht
    subst hc
    obtain rfl:=hargs _ ha
    have ht':ats=#[t]:=by rw [← Array.toList_inj]; exact ht
    subst ht'
    have key:∀v,(∀w,(Builtin.cap_ #[t] ty #[toV (ev (pA P R) env x)]).run P w=.ok v w)→∀w,(execOp a.eval ⟨dst,.call ⟨.builtin .cap,[x].toArray,#[t]⟩,ty,pos,after,guard⟩).run P w=.ok (.value v) w:=by
     intro v hv w
     have:=hv w
     simp [execOp,resolve,invoke,builtin,hev,this]
    split at h
    ·rename_i e o l cap hu hx
     have hu:=Z1h hu (by simp)
     cases h
     refine ⟨_,key _ fun w=>?_,hr⟩
     rw [hx]
     simp [Builtin.cap_,Zp hu,toV,goInt,pA]
    ·cases h
   ·rename_i x y hc ha
    subst hc
    obtain rfl:=hargs _ ha
    have key:∀v,(∀w,(Builtin.max2 (toV (ev (pA P R) env x)) (toV (ev (pA P R) env y))).run P w=.ok v w)→∀w,(execOp a.eval ⟨dst,.call ⟨.builtin .max,[x,y].toArray,ats⟩,ty,pos,after,guard⟩).run P w=.ok (.value v) w:=by
     intro v hv w
     have:=hv w
     simp [execOp,resolve,invoke,builtin,hev,Builtin.max_,this]
    split at h
    ·rename_i ka n kb m hx hy
     split at h
     ·rename_i hk
      subst hk
      cases h
      have ex:=ZD0 hx
      have ey:=ZD0 hy
      refine ⟨_,key _ fun w=>?_,hr⟩
      rw [ex,ey]
      simp only [Builtin.max2,pA,toV]
      by_cases hlt:(n:Int) < m
      ·rw [if_pos hlt,Int.max_eq_right (Int.le_of_lt hlt)]; rfl
      ·rw [if_neg hlt,Int.max_eq_left (Int.not_lt.1 hlt)]; rfl
     ·cases h
    ·cases h
   ·rename_i x y hc ha
    subst hc
    obtain rfl:=hargs _ ha
    have key:∀v,(∀w,(Builtin.min2 (toV (ev (pA P R) env x)) (toV (ev (pA P R) env y))).run P w=.ok v w)→∀w,(execOp a.eval ⟨dst,.call ⟨.builtin .min,[x,y].toArray,ats⟩,ty,pos,after,guard⟩).run P w=.ok (.value v) w:=by
     intro v hv w
     have:=hv w
     simp [execOp,resolve,invoke,builtin,hev,Builtin.min_,this]
    split at h
    ·rename_i ka n kb m hx hy
     split at h
     ·rename_i hk
      subst hk
      cases h
      have ex:=ZD0 hx
      have ey:=ZD0 hy
      refine ⟨_,key _ fun w=>?_,hr⟩
      rw [ex,ey]
      simp only [Builtin.min2,pA,toV]
      by_cases hlt:(m:Int) < n
      ·rw [if_pos hlt,Int.min_eq_right (Int.le_of_lt hlt)]; rfl
      ·rw [if_neg hlt,Int.min_eq_left (Int.not_lt.1 hlt)]; rfl
     ·cases h
    ·cases h
   ·cases h
 | _=>cases h
end Go.Vcg
end
section
namespace Go.Vcg
variable {P:Program} {R:Z6N}

theorem Z4D {w:World} {d:Addr}:∀(svs:List (SV pC)) (i:Nat) (r:Prop),Z91 (pA P R) w d i svs r→(∀j sv,svs[j]?=some sv→w.cell? (d.add (i+j))=some (toV sv))∧r
 | [],_,_,h=>⟨by simp,h⟩
 | v :: vs,i,r,h=>by
   obtain ⟨h1,h2⟩:=h
   obtain ⟨h3,h4⟩:=Z4D vs (i+1) r h2
   refine ⟨fun j sv hj=>?_,h4⟩
   cases j with
   | zero =>
     simp at hj
     subst hj
     by_cases h0:i=0
     ·rw [if_pos h0] at h1
      rw [h0,Nat.add_zero,Z3T]
      exact h1
     ·rw [if_neg h0] at h1
      exact h1
   | succ j =>
     simp at hj
     have:=h3 j sv hj
     rw [show i+(j+1)=i+1+j from by omega]
     exact this

theorem Z4S {t:TypeId} {d:Addr} {w:World} {vs:List Value} (hag:Z6T (und P t)=true) (hsz:Z0i P t=vs.length) (hc:∀j v,vs[j]?=some v→w.cell? (d.add j)=some v) :
  (loadVar t d).run P w=.ok (.agg vs.toArray) w:=by
 have hu:P.underlying t=some (und P t):=Z1h rfl (by intro he; rw [he] at hag; cases hag)
 obtain ⟨i,hi⟩:=Z3o hu
 unfold loadVar
 simp only [Sem.run_bind,Z5l hu,Result.andThen_ok,hag,if_true,Z0v hi,hsz]
 rw [run_loadCells_list _ d vs hc]
 rfl
theorem Z6p {t:TypeId} {d:Addr} {w:World} {v:Value} {du:TypeDesc} (hu:P.underlying t=some du) (hag:Z6T (und P t)=false) (hc:w.cell? d=some v) :
  (loadVar t d).run P w=.ok v w:=by
 have hd:und P t=du:=by simp [und,hu]
 unfold loadVar
 simp only [Sem.run_bind,Z5l hu,Result.andThen_ok,← hd,hag,Bool.false_eq_true,if_false,run_load,hc]

theorem Z2r {t:TypeId} {d:Addr} {w:World} {sv:SV pC} {du:TypeDesc} (hu:P.underlying t=some du)
  (h:match Z3e P t,sv with
    | .cell _,sv=>w.cell? d=some (toV sv)
    | .agg cs,.agg svs=>svs.length=cs.length∧∀j sv,svs[j]?=some sv→w.cell? (d.add j)=some (toV sv)
    | .big n,.big m l=>m=n∧ZJ w d n l
    | _,_=>False):(loadVar t d).run P w=.ok (toV sv) w:=by
 split at h
 ·rename_i c hs
  exact Z6p hu (Z63 hs) h
 ·rename_i cs svs hs
  obtain ⟨hag,hlen⟩:=Z3k hs
  obtain ⟨h1,h2⟩:=h
  refine Z4S hag (by rw [Z02]; omega) fun j v hj=>?_
  rw [toVs_getElem?] at hj
  cases hsj:svs[j]? with
  | none=>rw [hsj] at hj; cases hj
  | some sv=>rw [hsj] at hj; cases hj; exact h2 j sv hsj
 ·rename_i n m l hs
  obtain ⟨rfl,h1,h2⟩:=h
  obtain ⟨hag,hlen⟩:=Z9p hs
  have:=Z4S (w:=w) (d:=d) (vs:=Array.toList l) hag (by rw [← hlen,← h1]; simp) fun j v hj=>by
   have hlt:j < m:=by
    rw [← h1]
    have:=(List.getElem?_eq_some_iff.1 hj).1
    simpa using this
   rw [h2 j hlt]
   simpa using hj
  simpa [toV] using this
 ·cases h

theorem ZBG {cs:List Z76} {f:List (SV pC)→Prop} (h:Z66 (pA P R) cs f):∃svs,svs.length=cs.length∧f svs:=Z3G cs f h

theorem Z5D {t:TypeId} {d:Addr} {w:World} {k:SV pC→Prop} (h:ZEF (pA P R) P t d w k) :
  ∃sv,(loadVar t d).run P w=.ok (toV sv) w∧k sv∧∀w' r,Z6H (pA P R) P t d w' sv r→(loadVar t d).run P w'=.ok (toV sv) w'∧r:=by
 unfold ZEF at h
 split at h
 ·exact h.elim
 ·rename_i hsome
  obtain ⟨du,hu⟩:∃du,P.underlying t=some du:=by
   cases hs:P.underlying t with
   | none=>rw [hs] at hsome; exact absurd rfl hsome
   | some ds=>exact ⟨ds,rfl⟩
  split at h
  ·rename_i c hs
   obtain ⟨sv,h1,h2⟩:=Z3m _ _ h
   refine ⟨sv,Z2r hu (by rw [hs]; exact h1),h2,fun w' r hr=>?_⟩
   unfold Z6H at hr
   rw [hs] at hr
   exact ⟨Z2r hu (by rw [hs]; exact hr.1),hr.2⟩
  ·rename_i cs hs
   obtain ⟨svs,hl,h⟩:=ZBG h
   obtain ⟨h1,h2⟩:=Z4D _ _ _ h
   simp only [Nat.zero_add] at h1
   refine ⟨.agg svs,Z2r hu (by rw [hs]; exact ⟨hl,h1⟩),h2,fun w' r hr=>?_⟩
   unfold Z6H at hr
   rw [hs] at hr
   obtain ⟨h3,h4⟩:=Z4D _ _ _ hr
   simp only [Nat.zero_add] at h3
   exact ⟨Z2r hu (by rw [hs]; exact ⟨hl,h3⟩),h4⟩
  ·rename_i n hs
   obtain ⟨l,h1,h2⟩:=h
   refine ⟨.big n l,Z2r hu (by rw [hs]; exact ⟨rfl,h1⟩),h2,fun w' r hr=>?_⟩
   unfold Z6H at hr
   rw [hs] at hr
   exact ⟨Z2r hu (by rw [hs]; exact ⟨rfl,hr.1⟩),hr.2⟩

theorem Z5o {o:Oper} {ρ:Operand→Value} {s:Sem Value} (h:ZEj o ρ=some s):execOp ρ o=(do pure (.value (← s))):=by
 obtain ⟨dst,op,ty,pos,after,guard⟩:=o
 cases op with
 | call c =>
   obtain ⟨callee,args,ats⟩:=c
   simp only [ZEj] at h
   cases callee with
   | builtin b=>cases b <;> first
     | (cases h; rfl)
     | (cases h; done)
   | _=>cases h
 | _=>first
   | (cases h; rfl)
   | cases h

theorem Z6d {o:Oper} {env:Env pC} {a:Act} {w:World} (hrep:Rep env a) {k:SV pC→Prop} (h:ZCa (pA P R) P o (ev (pA P R) env) w k) :
  ∃sv,(execOp a.eval o).run P w=.ok (.value (toV sv)) w∧k sv ∧
   ∀w' r,Z4g (pA P R) P o (ev (pA P R) env) sv w' r→(execOp a.eval o).run P w'=.ok (.value (toV sv)) w'∧r:=by
 have hev:∀x,a.eval x=toV (ev (pA P R) env x):=fun x=>hrep.eval x
 have hfun:(fun x=>toV (ev (pA P R) env x))=a.eval:=funext fun x=>(hev x).symm
 unfold ZCa at h
 split at h
 ·rename_i t x ho
  split at h
  ·rename_i d hx
   obtain ⟨sv,h1,h2,h3⟩:=Z5D h
   have hex:execOp a.eval o=(do pure (.value (← Instr.loadAt t (a.eval x)))):=by unfold execOp; simp only [ho]
   have hl:∀w,(Instr.loadAt t (a.eval x)).run P w=(loadVar t d).run P w:=fun w=>by
    rw [hev,hx]
    simp [Instr.loadAt,toV,Instr.sureAddr]
   refine ⟨sv,ZU hex (by rw [hl]; exact h1),h2,fun w' r hr=>?_⟩
   unfold Z4g at hr
   simp only [ho,hx] at hr
   obtain ⟨h4,h5⟩:=h3 w' r hr
   exact ⟨ZU hex (by rw [hl]; exact h4),h5⟩
  ·rename_i oo hx
   obtain ⟨d,ho',h⟩:=h
   obtain ⟨sv,h1,h2,h3⟩:=Z5D h
   have hex:execOp a.eval o=(do pure (.value (← Instr.loadAt t (a.eval x)))):=by unfold execOp; simp only [ho]
   have hl:∀w,(Instr.loadAt t (a.eval x)).run P w=(loadVar t d).run P w:=fun w=>by
    rw [hev,hx]
    simp [Instr.loadAt,toV,Instr.sureAddr,ho']
   refine ⟨sv,ZU hex (by rw [hl]; exact h1),h2,fun w' r hr=>?_⟩
   unfold Z4g at hr
   simp only [ho,hx] at hr
   obtain ⟨d',ho2,hr⟩:=hr
   obtain rfl:d=d':=by
    have e:=ho'.symm.trans ho2
    injection e
   obtain ⟨h4,h5⟩:=h3 w' r hr
   exact ⟨ZU hex (by rw [hl]; exact h4),h5⟩
  ·exact h.elim
 ·rename_i hno
  simp only [pA] at h
  cases hs:ZEj o (fun x=>toV (ev (pA P R) env x)) with
  | none=>have h':=h; simp only [pA] at hs; rw [hs] at h'; exact h'.elim
  | some s =>
    have h':=h
    simp only [pA] at hs
    rw [hs] at h'
    obtain ⟨v,h1,h2⟩:=h'
    obtain ⟨sv,h3,h4⟩:=Z4F (P:=P) (R:=R) _ _ h2
    have h3:v=toV sv:=h3
    subst h3
    have hs':ZEj o a.eval=some s:=by rw [← hfun]; exact hs
    refine ⟨sv,ZU (Z5o hs') h1,h4,fun w' r hr=>?_⟩
    unfold Z4g at hr
    split at hr
    ·rename_i t x ho; exact absurd ho (hno t x)
    ·simp only [pA] at hr
     rw [hs] at hr
     exact ⟨ZU (Z5o hs') hr.1,hr.2⟩
end Go.Vcg
end
section
namespace Go.Vcg
variable {P:Program} {R:Z6N}

theorem Z8r {d:Addr}:∀(svs:List (SV pC)) (i:Nat) (w:World) (k:World→Prop),ZHA (pA P R) d i svs w k→∃w',(storeCells d (toVs svs) i).run P w=.ok () w'∧(∀sv∈svs,(toV sv).oneCell'=true)∧k w'
 | [],i,w,k,h=>⟨w,rfl,by simp,h⟩
 | v :: vs,i,w,k,h=>by
   obtain ⟨⟨h1,⟨u,hu⟩,h2⟩,h⟩:=h
   obtain ⟨w',h3,h4,h5⟩:=Z8r vs (i+1) _ k (h _ rfl)
   have hd:(if i=0 then d else (pA P R).dadd d ((pA P R).nl i))=Addr.add d i:=by
    by_cases h0:i=0
    ·rw [if_pos h0,h0,Z3T]
    ·rw [if_neg h0]; rfl
   rw [hd] at hu h2 h3
   refine ⟨w',?_,List.forall_mem_cons.2 ⟨h1,h4⟩,h5⟩
   simp only [toVs,storeCells,Sem.run_bind,run_store P w _ _ _ h1,hu,h2]
   exact h3

theorem Z6j (cs:List Value):toVs (cs.map (Z2j (pA P R)))=cs:=by
 rw [Z1i,List.map_map]
 have:(toV ∘ Z2j (pA P R))=id:=funext fun v=>Z2O v
 rw [this]; simp

theorem Z8l {t:TypeId} {v:Value} {w:World}:(newVar t v).run P w=.ok ⟨w.heap.size,0,none⟩ (w.alloc (.cells v.cells t)):=by
 simp [newVar,newRow]

section
variable {o:Oper} {a:Act} {w:World} {next:Act→World→Prop} {Q:Exit→Act→World→Prop}

theorem Z1o {v:Value} {w':World} (h:(execOp a.eval o).run P w=.ok (.value v) w') (hn:next (a.put o.dst v) w'):o.wp P a w next Q:=by
 unfold Oper.wp; rw [h]; exact hn
theorem ZCu {w':World} (h:(execOp a.eval o).run P w=.ok .skip w') (hn:next (a.put o.dst undef) w'):o.wp P a w next Q:=by
 unfold Oper.wp; rw [h]; exact hn
theorem Z75 {f:FuncId} {args:Array Value} {w':World} (h:(execOp a.eval o).run P w=.ok (.enter f args) w') (hn:Calls P f args w' fun e w''=>(∃ch,e=.panicked ch∧Q (.panic ch) a w'')∨∃v,e=.returned v∧next (a.put o.dst v) w''):o.wp P a w next Q:=by
 unfold Oper.wp; rw [h]
 exact hn.mono fun e w'' hh=>by
  rcases hh with ⟨ch,he,hv⟩ | ⟨v,he,hv⟩
  ·subst he; exact hv
  ·subst he; exact hv

theorem ZA7 {ρ:Operand→Value} {s:Sem Unit} {w w':World} (ho:execOp ρ o=(do s; pure .skip)) (h:s.run P w=.ok () w') :
  (execOp ρ o).run P w=.ok .skip w':=by
 rw [ho]; simp [h]
theorem ZEi {ρ:Operand→Value} {s:Sem Unit} (h:semU o ρ=some s):execOp ρ o=(do s; pure .skip):=by
 obtain ⟨dst,op,ty,pos,after,guard⟩:=o
 cases op <;> first
  | (cases h; rfl)
  | (cases h; done)
end

theorem Z2d {f:FuncId} {args:Array Value} (h:Z8N P f=true) (w:World):(callFunc f args).run P w=.ok (.enter f args) w:=by
 unfold Z8N at h
 cases hf:P.funcs[f]? with
 | none=>rw [hf] at h; cases h
 | some fn =>
   rw [hf] at h
   simp only [Bool.and_eq_true,bne_iff_ne,ne_eq] at h
   unfold callFunc
   have hb:fn.body≠none:=by rintro hb; rw [hb] at h; cases h.1
   simp [hf,h.2,hb]

theorem ZFF {sh:Shape} {e:Ending} {k:SV pC→Prop} (h:Z3n (pA P R) sh fun sv=>(pA P R).endEq e sv (k sv)):∃sv,e=.returned (toV sv)∧k sv :=
 Z4F (P:=P) (R:=R) _ _ h
theorem ZI5 {sh:Shape} {v:Value} {k:SV pC→Prop} (h:Z3n (pA P R) sh fun sv=>(pA P R).valEq v sv (k sv)):∃sv,v=toV sv∧k sv :=
 Z4F (P:=P) (R:=R) _ _ h

theorem Z6l (z:Value):toVs (Z6L (pA P R) z)=z.cells.toList:=by
 unfold Z6L
 split
 ·rw [Z6j]; rfl
 ·rename_i h
  simp only [toVs,Z2O]
  cases z <;> first
   | rfl
   | exact absurd rfl (h _)
theorem ZFr (n:Nat) (l:List (SV pC)):toVs (List.replicate n l).flatten=(List.replicate n (toVs l)).flatten:=by
 simp [Z1i,List.map_flatten]
theorem ZCC {α:Type} (l:List α):∀(n i:Nat),i < n * l.length→(List.replicate n l).flatten[i]?=l[i % l.length]?
 | 0,i,h=>by simp at h
 | n+1,i,h=>by
   rw [List.replicate_succ,List.flatten_cons]
   by_cases hi:i < l.length
   ·rw [List.getElem?_append_left hi,Nat.mod_eq_of_lt hi]
   ·have hle:l.length≤i:=Nat.not_lt.1 hi
    rw [List.getElem?_append_right hle,ZCC l n (i - l.length) (by rw [Nat.add_mul,Nat.one_mul] at h; omega),← Nat.mod_eq_sub_mod hle]
theorem ZBx (l:Array Value) (n:Nat):((Array.range (n * l.size)).map fun i=>l[i % l.size]!)=((List.replicate n l.toList).flatten).toArray:=by
 have hlen:(List.replicate n l.toList).flatten.length=n * l.size:=by simp
 refine Array.ext (by simp) fun i h1 h2=>?_
 have hi:i < n * l.size:=by simpa using h1
 have hpos:0 < l.size:=by
  rcases Nat.eq_zero_or_pos l.size with h | h
  ·rw [h,Nat.mul_zero] at hi; omega
  ·exact h
 have hm:i % l.size < l.size:=Nat.mod_lt _ hpos
 have:=ZCC l.toList n i (by simpa using hi)
 rw [List.getElem?_eq_getElem (by rw [hlen]; exact hi)] at this
 simp only [Array.getElem_map,Array.getElem_range,List.getElem_toArray]
 have e:l.toList[i % l.toList.length]?=some l[i % l.size]:=by simp [hm]
 rw [e] at this
 simp only [Option.some.injEq] at this
 rw [this]
 simp [hm]

theorem Z4w {t e:TypeId} {n:Nat} {z:Value} {cells:Array Value} {parts:Array (Nat×Value)} {ie:TypeInfo} {w:World} (hu:P.underlying t=some (.slice e)) (hie:P.info? e=some ie)
  (hz:Z4x P e=some z) (hsz:z.cells.size=Z0i P e) (hn:n * Z0i P e≤4096)
  (hf:Instr.fill (fun i=>some (i * Z0i P e,Z0i P e)) ((List.replicate n z.cells.toList).flatten).toArray parts.toList=some cells) :
  (Instr.buildSlice t n parts).run P w=.ok (.slice (some ⟨w.heap.size,0,none⟩) n n) (w.alloc (.cells cells e)):=by
 unfold Instr.buildSlice
 simp only [Sem.run_bind,Zp hu,Result.andThen_ok,Z0v hie]
 have hbig:¬n * Z0i P e > 2 ^ 24:=by omega
 rw [if_neg hbig]
 by_cases h0:n * Z0i P e=0
 ·have hnil:(List.replicate n z.cells.toList).flatten=[]:=by
    rw [← List.length_eq_zero_iff]; simp [hsz,h0]
  rw [hnil] at hf
  have e0:(Array.map (fun x=>(default:Value)) (Array.range 0))=#[]:=by simp
  simp [h0,e0,hf,newRow]
 ·have hr:=ZBx z.cells n
  rw [hsz] at hr
  rw [← hr] at hf
  simp [h0,ZCv hz,hsz,hf,newRow]

theorem ZD5 {o:Oper} {env:Env pC} {a:Act} {w:World} (hrep:Rep env a) {k:SV pC→World→Prop} (h:evOp (pA P R) P o (ev (pA P R) env) w k)
  {next:Act→World→Prop} {Q:Exit→Act→World→Prop} (hR:∀ch w',R.fin (.panicked ch) w'→Q (.panic ch) a w') (hk:∀sv w',k sv w'→next (a.put o.dst (toV sv)) w'):o.wp P a w next Q:=by
 have hev:∀x,a.eval x=toV (ev (pA P R) env x):=fun x=>hrep.eval x
 have hfun:(fun x=>toV (ev (pA P R) env x))=a.eval:=funext fun x=>(hev x).symm
 have ran:(pA P R).run o (ev (pA P R) env) w (fun v w=>Z3n (pA P R) (Z8o P o.type) fun sv=>(pA P R).valEq v sv (k sv w))→o.wp P a w next Q:=by
  intro h
  simp only [pA] at h
  cases hs:ZEj o (fun x=>toV (ev (pA P R) env x)) with
  | none=>have h':=h; simp only [pA] at hs; rw [hs] at h'; exact h'.elim
  | some s =>
    have h':=h
    simp only [pA] at hs
    rw [hs] at h'
    obtain ⟨v,w',h1,h2⟩:=h'
    obtain ⟨sv,h3,h4⟩:=ZI5 (P:=P) (R:=R) h2
    subst h3
    have hs':ZEj o a.eval=some s:=by rw [← hfun]; exact hs
    exact Z1o (ZU (Z5o hs') h1) (hk _ _ h4)
 have ranR:(pA P R).run o (ev (pA P R) env) w (fun v w=>k (.raw v) w)→o.wp P a w next Q:=by
  intro h
  simp only [pA] at h
  cases hs:ZEj o (fun x=>toV (ev (pA P R) env x)) with
  | none=>have h':=h; simp only [pA] at hs; rw [hs] at h'; exact h'.elim
  | some s =>
    have h':=h
    simp only [pA] at hs
    rw [hs] at h'
    obtain ⟨v,w',h1,h2⟩:=h'
    have hs':ZEj o a.eval=some s:=by rw [← hfun]; exact hs
    exact Z1o (ZU (Z5o hs') h1) (hk _ _ h2)
 have ranU:(pA P R).runU o (ev (pA P R) env) w (fun w=>k (.tup []) w)→o.wp P a w next Q:=by
  intro h
  simp only [pA] at h
  cases hs:semU o (fun x=>toV (ev (pA P R) env x)) with
  | none=>have h':=h; simp only [pA] at hs; rw [hs] at h'; exact h'.elim
  | some s =>
    have h':=h
    simp only [pA] at hs
    rw [hs] at h'
    obtain ⟨w',h1,h2⟩:=h'
    have hs':semU o a.eval=some s:=by rw [← hfun]; exact hs
    exact ZCu (ZA7 (ZEi hs') h1) (hk _ _ h2)
 have panicC:∀x,o.op=.panic x→∀t v,ev (pA P R) env x=.iface t v→(pA P R).panic (.iface t v) w→o.wp P a w next Q:=by
  intro x ho t v hx h
  have h:(match R.pan with
   | true=>R.fin (.panicked (ZES (toV (.iface t v)))) w
   | false=>False):=h
  split at h
  case h_2=>exact h.elim
  have he:a.eval x=.iface t (toV v):=by rw [hev,hx]; rfl
  have hex:(execOp a.eval o).run P w=.halt (.panic (.iface t (toV v))) w:=by
   simp only [execOp,ho,he]
   rfl
  unfold Oper.wp
  rw [hex]
  exact hR _ _ h
 unfold evOp at h
 simp only at h
 split at h
 ·-- alloc
  rename_i t ho
  have hex:execOp a.eval o=(do pure (.value (← Instr.alloc t true (.tuple #[])))):=by unfold execOp; simp only [ho]
  have key:∀z,Z4x P t=some z→(Instr.alloc t true (.tuple #[])).run P w=.ok (.pointer (some ⟨w.heap.size,0,none⟩)) (w.alloc (.cells z.cells t)):=by
   intro z hz
   unfold Instr.alloc
   simp only [Sem.run_bind,ZCv hz,Result.andThen_ok,Z8l,Sem.run_pure]
  split at h
  ·rename_i cs hz
   split at h
   ·have h':=h _ _ ⟨rfl,rfl⟩
    refine Z1o (ZU hex (key _ hz)) ?_
    have:=hk _ _ h'
    rw [Z6j] at this
    simpa [Value.cells,toV] using this
   ·have h':=h _ _ ⟨rfl,rfl⟩
    exact Z1o (ZU hex (key _ hz)) (hk _ _ h')
  ·rename_i z hn hz
   have h':=h _ _ ⟨rfl,rfl⟩
   refine Z1o (ZU hex (key _ hz)) ?_
   have:=hk _ _ h'
   have hc:z.cells=#[z]:=by
    cases z <;> first
     | rfl
     | exact absurd rfl (hn _)
   simp only [toVs,Z2O,toV] at this
   rw [hc]
   exact this
  ·exact h.elim
 ·-- box
  rename_i t x ho
  have hex:execOp a.eval o=(do pure (.value (← Instr.box t (a.eval x)))):=by unfold execOp; simp only [ho]
  have key:(Instr.box t (a.eval x)).run P w=.ok (.pointer (some ⟨w.heap.size,0,none⟩)) (w.alloc (.cells (a.eval x).cells t)):=by
   unfold Instr.box
   simp only [Sem.run_bind,Result.andThen_ok,Z8l,Sem.run_pure]
  split at h
  ·rename_i n l hx
   have h':=h _ _ ⟨rfl,rfl⟩
   refine Z1o (ZU hex key) ?_
   rw [hev,hx]
   exact hk _ _ h'
  ·split at h
   ·rename_i cs hcs
    obtain ⟨hrw,h⟩:=Z33 _ _ h
    have h':=h _ _ ⟨rfl,rfl⟩
    refine Z1o (ZU hex key) ?_
    rw [hev,Z6r (hrw _ (by simp)) hcs]
    exact hk _ _ h'
   ·exact h.elim
 ·-- buildSlice
  rename_i t n parts ho
  have hex:execOp a.eval o=(do pure (.value (← Instr.buildSlice t n (parts.map fun (i,x)=>(i,a.eval x))))):=by unfold execOp; simp only [ho]
  split at h
  ·rename_i e hu
   have hu:=Z1h hu (by simp)
   split at h
   ·rename_i z hz
    split at h
    ·rename_i hc
     split at h
     ·rename_i cells hb
      obtain ⟨hrw,h⟩:=Z33 _ _ h
      have h':=h _ _ ⟨rfl,rfl⟩
      refine Z1o (ZU hex ?_) (hk _ _ h')
      have hie:∃ie,P.info? e=some ie:=by
       cases hi:P.info? e with
       | none=>simp [Z4x,hi] at hz
       | some ie=>exact ⟨ie,rfl⟩
      obtain ⟨ie,hie⟩:=hie
      have hfill:=Z2g (place:=fun i=>some (i * Z0i P e,Z0i P e)) (ev:=ev (pA P R) env) parts.toList _ cells hrw hb
      have hl:(parts.map fun (i,x)=>(i,a.eval x)).toList=parts.toList.map fun (i,x)=>(i,toV (ev (pA P R) env x)):=by simp [hev]
      have hzs:(toVs (Z6L (pA P R) z)).length=Z0i P e:=by rw [Z02]; exact hc.1
      rw [← hl,ZFr] at hfill
      rw [Z6l] at hzs hfill
      exact Z4w hu hie hz (by simpa using hzs) (Nat.le_trans hc.2.1 (by decide)) hfill
     ·exact h.elim
    ·split at h
     ·rename_i hn1
      obtain ⟨rfl,hlen,hle⟩:=hn1
      split at h
      ·rename_i r hb
       obtain ⟨hrw,h⟩:=Z33 _ _ h
       have hie:∃ie,P.info? e=some ie:=by
        cases hi:P.info? e with
        | none=>simp [Z4x,hi] at hz
        | some ie=>exact ⟨ie,rfl⟩
       obtain ⟨ie,hie⟩:=hie
       have hzc:(pA P R).lconst z=z.cells:=by cases z <;> rfl
       have hzs:z.cells.size=Z0i P e:=by
        have h1:=Z6l (P:=P) (R:=R) z
        have h2:=congrArg List.length h1
        rw [Z02,hlen] at h2
        simpa using h2.symm
       rw [hzc] at hb
       obtain ⟨out,ho',hk'⟩:=Z2W (place:=fun i=>some (i * Z0i P e,Z0i P e)) (ev:=ev (pA P R) env) (n:=Z0i P e) parts.toList z.cells r hrw hzs hb h
       have h':=hk' _ _ ⟨rfl,rfl⟩
       have hl:(parts.map fun (i,x)=>(i,a.eval x)).toList=parts.toList.map fun (i,x)=>(i,toV (ev (pA P R) env x)):=by simp [hev]
       rw [← hl] at ho'
       refine Z1o (ZU hex (Z4w hu hie hz hzs (by omega) ?_)) (hk _ _ h')
       simpa using ho'
      ·exact h.elim
     ·exact h.elim
   ·exact h.elim
  ·exact h.elim
 ·-- store
  rename_i t x y ho
  have hex:execOp a.eval o=(do Instr.storeAt t (a.eval x) (a.eval y); pure .skip):=by unfold execOp; simp only [ho]
  split at h
  ·rename_i d hx
   split at h
   ·rename_i cs hcs
    split at h
    ·rename_i hlen
     obtain ⟨w',h1,h2,h3⟩:=Z8r _ _ _ _ h
     refine ZCu (ZA7 hex ?_) (hk _ _ h3)
     have hrw:ZCz (ev (pA P R) env y):=by
      cases hy:ev (pA P R) env y with
      | raw v =>
        rw [hy] at hcs
        cases hcs
        exact h2 (.raw v) (by simp)
      | _=>trivial
     obtain ⟨i,hi⟩:=Option.isSome_iff_exists.1 hlen.2
     have hc:=Z6r hrw hcs
     rw [hev,hev,hx]
     unfold Instr.storeAt
     simp only [toV,Instr.sureAddr,Sem.run_bind,Sem.run_pure,Result.andThen_ok]
     unfold storeVar
     simp only [Sem.run_bind,Z0v hi,Result.andThen_ok,hc,List.size_toArray,Z02,hlen.1]
     simpa using h1
    ·exact h.elim
   ·exact ranU h
  ·exact h.elim
 ·exact ranU h
 ·exact ranU h
 ·exact ranU h
 ·-- a call
  rename_i c ho
  have hargs:∀l:List Operand,(l.map (ev (pA P R) env)).map toV=l.map a.eval:=fun l=>by
   rw [List.map_map]; exact congrArg (fun f=>List.map f l) hfun
  split at h
  ·exact ran h
  ·rename_i f hc
   have hex:∀fn first cap,a.eval f=.func (.func fn) first cap→(execOp a.eval o).run P w=(callFunc fn (first++c.args.map a.eval++cap)).run P w:=by
    intro fn first cap hf
    simp [execOp,ho,resolve,hc,Deferred.ofValue,hf,invoke]
   split at h
   ·rename_i fn first cap hf
    have hf':a.eval f=.func (.func fn) (toVs first).toArray (toVs cap).toArray:=by rw [hev,hf]; rfl
    have hall:(toVs (first++c.args.toList.map (ev (pA P R) env)++cap)).toArray=(toVs first).toArray++c.args.map a.eval++(toVs cap).toArray:=by
     refine Array.ext' ?_
     simp only [Z1i,List.map_append,hargs]
     simp
    split at h
    ·rename_i hen
     have h:Calls P fn (toVs (first++c.args.toList.map (ev (pA P R) env)++cap)).toArray w (fun e w=>R.call e w (Z3n (pA P R) (Z8o P o.type) fun sv=>(pA P R).endEq e sv (k sv w))):=h
     rw [hall] at h
     refine Z75 ((hex _ _ _ hf').trans (Z2d hen w)) (h.mono fun e w'' he=>?_)
     rcases Z6N.call_or he with ⟨ch,he,hv⟩ | he
     ·exact .inl ⟨ch,he,hR _ _ hv⟩
     obtain ⟨sv,h1,h2⟩:=ZFF (P:=P) (R:=R) he
     exact .inr ⟨_,h1,hk _ _ h2⟩
    ·split at h
     ·obtain ⟨v,w',h1,h2⟩:=h
      obtain ⟨sv,h3,h4⟩:=ZI5 (P:=P) (R:=R) h2
      subst h3
      rw [hall] at h1
      exact Z1o ((hex _ _ _ hf').trans h1) (hk _ _ h4)
     ·exact h.elim
   ·rename_i m v hf
    obtain ⟨t,y,fn,recv,hv,hm,hen,h⟩:=h
    have hf':a.eval f=.func (.method m) #[.iface t y] #[]:=by
     rw [hev,hf,← hv]; rfl
    have hall:(toVs (c.args.toList.map (ev (pA P R) env))).toArray=c.args.map a.eval:=by
     rw [Z1i,hargs]
     exact Array.ext' (by simp)
    rw [hall] at h
    have hex:(execOp a.eval o).run P w=(callFunc fn (#[recv]++c.args.map a.eval)).run P w:=by
     have hget:((#[Value.iface t y]++c.args.map a.eval)[0]?:Option Value)=some (.iface t y):=by rw [Array.getElem?_append_left (by simp)]; rfl
     have hext:(#[Value.iface t y]++c.args.map a.eval).extract 1 (#[Value.iface t y]++c.args.map a.eval).size=c.args.map a.eval :=
      Array.ext' (by simp; exact List.take_of_length_le (by simp))
     simp only [execOp,ho,resolve,hc,Deferred.ofValue,hf',Sem.run_bind,Sem.run_pure,Result.andThen_ok,invoke,hget,hext,callMethod,run_program,hm]
    refine Z75 (hex.trans (Z2d hen w)) (h.mono fun e w'' he=>?_)
    rcases Z6N.call_or he with ⟨ch,he,hv⟩ | he
    ·exact .inl ⟨ch,he,hR _ _ hv⟩
    obtain ⟨sv,h1,h2⟩:=ZFF (P:=P) (R:=R) he
    exact .inr ⟨_,h1,hk _ _ h2⟩
   ·rename_i v hf
    obtain ⟨fn,first,cap,hv,hen,h⟩:=h
    have hf':a.eval f=.func (.func fn) first cap:=by rw [hev,hf,← hv]; rfl
    have hall:first++(toVs (c.args.toList.map (ev (pA P R) env))).toArray++cap=first++c.args.map a.eval++cap:=by
     rw [Z1i,hargs]
     congr 2
     exact Array.ext' (by simp)
    rw [hall] at h
    refine Z75 ((hex _ _ _ hf').trans (Z2d hen w)) (h.mono fun e w'' he=>?_)
    rcases Z6N.call_or he with ⟨ch,he,hv⟩ | he
    ·exact .inl ⟨ch,he,hR _ _ hv⟩
    obtain ⟨sv,h1,h2⟩:=ZFF (P:=P) (R:=R) he
    exact .inr ⟨_,h1,hk _ _ h2⟩
   ·exact h.elim
  ·rename_i x m hc
   split at h
   ·rename_i v hx
    obtain ⟨t,y,f,recv,hv,hm,hen,h⟩:=h
    have hx':a.eval x=.iface t y:=by rw [hev,hx,← hv]; rfl
    have hall:(toVs (c.args.toList.map (ev (pA P R) env))).toArray=c.args.map a.eval:=by
     rw [Z1i,hargs]
     exact Array.ext' (by simp)
    rw [hall] at h
    have hex:(execOp a.eval o).run P w=(callFunc f (#[recv]++c.args.map a.eval)).run P w:=by
     have hget:((#[a.eval x]++c.args.map a.eval)[0]?:Option Value)=some (a.eval x):=by rw [Array.getElem?_append_left (by simp)]; rfl
     have hext:(#[a.eval x]++c.args.map a.eval).extract 1 (#[a.eval x]++c.args.map a.eval).size=c.args.map a.eval :=
      Array.ext' (by simp; exact List.take_of_length_le (by simp))
     rw [hx'] at hget hext
     simp only [execOp,ho,resolve,hc,Sem.run_bind,Sem.run_pure,Result.andThen_ok,invoke,hx',hget,hext,callMethod,run_program,hm]
    refine Z75 (hex.trans (Z2d hen w)) (h.mono fun e w'' he=>?_)
    rcases Z6N.call_or he with ⟨ch,he,hv⟩ | he
    ·exact .inl ⟨ch,he,hR _ _ hv⟩
    obtain ⟨sv,h1,h2⟩:=ZFF (P:=P) (R:=R) he
    exact .inr ⟨_,h1,hk _ _ h2⟩
   ·exact h.elim
 all_goals first
  | (rename_i x ho; generalize hx:ev (pA P R) env x=y at h; cases y <;> first | exact h.elim | exact panicC x ho _ _ hx h)
  | exact ran h
  | exact ranR h
  | exact h.elim
end Go.Vcg
end
section
namespace Go.Vcg
variable {P:Program} {R:Z6N}

theorem Rep.put {env:Env pC} {a:Act} (h:Rep env a) {dst:Option Tmp} {sv:SV pC} (hd:∀d,dst=some d→d < a.tmps.size):Rep (ZDP env dst sv) (a.put dst (toV sv)):=by
 cases dst with
 | none=>exact h
 | some d =>
   intro t
   have hlt:=hd d rfl
   simp only [ZDP,Z3g]
   by_cases ht:d=t
   ·subst ht
    simp [Act.put,hlt]
   ·have:Nat.beq d t=false:=by
      cases hb:Nat.beq d t with
      | false=>rfl
      | true=>exact absurd (Nat.eq_of_beq_eq_true hb) ht
    simp only [this,cond_false]
    rw [← h t]
    simp [Act.put,Array.getElem?_setIfInBounds_ne ht]
theorem Rep.refine {env:Env pC} {a:Act} (h:Rep env a) {t:Tmp} {sv:SV pC} (hs:toV (Z3g env t)=toV sv):Rep ((t,sv) :: env) a:=by
 intro u
 simp only [Z3g]
 cases hb:Nat.beq t u with
 | true=>simp only [cond_true]; rw [← Nat.eq_of_beq_eq_true hb,← hs]; exact h t
 | false=>simp only [cond_false]; exact h u
theorem Rep.tmp? {env:Env pC} {a:Act} (h:Rep env a) {t:Tmp} (hn:toV (Z3g env t)≠undef):a.tmps[t]?=some (toV (Z3g env t)):=by
 have:=h t
 rw [Array.getD_eq_getD_getElem?] at this
 cases ht:a.tmps[t]? with
 | none=>rw [ht] at this; exact absurd this.symm hn
 | some v=>rw [ht] at this; simpa using this

theorem Z58 {ops:Array Oper} {o:Oper} {env:Env pC} {a:Act} (hrep:Rep env a) {yes no:Env pC→Prop} (h:ZAD (pA P R) ops o env yes no) :
  (Region.wanted o (yielded ops a.tmps)=true∧∃env',Rep env' a∧yes env')∨(Region.wanted o (yielded ops a.tmps)=false∧∃env',Rep env' a∧no env'):=by
 unfold ZAD at h
 unfold Region.wanted
 cases hg:o.guard with
 | none=>rw [hg] at h; exact .inl ⟨rfl,env,hrep,h⟩
 | some jw =>
   obtain ⟨j,want⟩:=jw
   rw [hg] at h
   simp only at h ⊢
   cases ht:(ops[j]?).bind (·.dst) with
   | none =>
     rw [ht] at h
     refine .inr ⟨?_,env,hrep,h⟩
     simp [yielded,ht]
   | some t =>
     rw [ht] at h
     simp only at h
     have hy:∀b:Bool,toV (Z3g env t)=.bool b→yielded ops a.tmps j=some b:=by
      intro b hb
      have:=hrep.tmp? (t:=t) (by rw [hb]; simp [undef])
      simp [yielded,ht,this,hb]
     split at h
     ·rename_i b hb
      have:=hy b (by rw [hb]; rfl)
      rw [this]
      by_cases hbw:b=want
      ·subst hbw
       simp only [beq_self_eq_true,if_true] at h
       exact .inl ⟨by simp,env,hrep,h⟩
      ·have hne:(b == want)=false:=by simpa using hbw
       rw [hne] at h
       exact .inr ⟨by simpa using hbw,env,hrep,h⟩
     ·rename_i b hb
      obtain ⟨h1,h2⟩:=h
      have hv:toV (Z3g env t)=.bool (den b):=by rw [hb]; rfl
      rw [hy _ hv]
      cases hd:den b with
      | true =>
        have h1:=Z2y _ _ _ h1 hd
        have hr:Rep ((t,.blit true) :: env) a:=hrep.refine (by rw [hv,hd]; rfl)
        cases want with
        | true=>exact .inl ⟨rfl,_,hr,h1⟩
        | false=>exact .inr ⟨rfl,_,hr,h1⟩
      | false =>
        have h2:=Z2y _ _ _ h2 hd
        have hr:Rep ((t,.blit false) :: env) a:=hrep.refine (by rw [hv,hd]; rfl)
        cases want with
        | true=>exact .inr ⟨rfl,_,hr,h2⟩
        | false=>exact .inl ⟨rfl,_,hr,h2⟩
     ·rename_i hb
      refine .inr ⟨?_,env,hrep,h⟩
      have hu:a.tmps.getD t undef=.tuple #[]:=by rw [hrep t,hb]; rfl
      have hn:yielded ops a.tmps j=none:=by
       unfold yielded
       rw [ht]
       simp only [Option.bind_some]
       rw [Array.getD_eq_getD_getElem?] at hu
       cases hx:a.tmps[t]? with
       | none=>rfl
       | some v=>rw [hx] at hu; simp at hu; subst hu; rfl
      rw [hn]; rfl
     ·exact h.elim

theorem Z8K {o:Oper} {env:Env pC} {a:Act} {w:World} (hrep:Rep env a) {k:SV pC→World→Prop} (h:doOp (pA P R) P o env w k)
  {next:Act→World→Prop} {Q:Exit→Act→World→Prop} (hR:∀ch w',R.fin (.panicked ch) w'→Q (.panic ch) a w') (hk:∀sv w',k sv w'→next (a.put o.dst (toV sv)) w'):o.wp P a w next Q:=by
 unfold doOp at h
 split at h
 ·rename_i r hp
  obtain ⟨sv,h1,h2⟩:=Z6a hrep hp h
  exact Z1o (h1 w) (hk _ _ h2)
 ·split at h
  ·obtain ⟨sv,h1,h2,_⟩:=Z6d hrep h
   exact Z1o h1 (hk _ _ h2)
  ·exact ZD5 hrep h hR hk

def ZDt (n:Nat) (o:Oper):Prop:=∀d,o.dst=some d→d < n
def Keep (W:List Tmp) (a a':Act):Prop:=∀t,t ∉ W→a'.tmps.getD t undef=a.tmps.getD t undef
theorem Keep.refl (W:List Tmp) (a:Act):Keep W a a:=fun _ _=>rfl
theorem Keep.trans {W:List Tmp} {a b c:Act} (h:Keep W a b) (k:Keep W b c):Keep W a c:=fun t ht=>(k t ht).trans (h t ht)
theorem Keep.mono {W W':List Tmp} {a b:Act} (h:Keep W a b) (hs:∀t∈W,t∈W'):Keep W' a b:=fun t ht=>h t fun hm=>ht (hs t hm)
theorem Keep.put {W:List Tmp} {a:Act} {dst:Option Tmp} {v:Value} (h:∀d,dst=some d→d∈W):Keep W a (a.put dst v):=by
 intro t ht
 have hne:dst≠some t:=fun he=>ht (h t he)
 rw [Array.getD_eq_getD_getElem?,Z1J hne,Array.getD_eq_getD_getElem?]

theorem Z2p {ops:Array Oper} {n:Nat} {W:List Tmp} {Q:Exit→Act→World→Prop}:∀(l:List Oper) (env:Env pC) (a:Act) (w:World) (k:Env pC→World→Prop),Rep env a→a.tmps.size=n →
  (∀o∈l,ZDt n o)→(∀o∈l,∀d,o.dst=some d→d∈W)→Z6G (pA P R) P ops l env w k→(∀ch (a':Act) w',a'.defers=a.defers→Keep W a a'→R.fin (.panicked ch) w'→Q (.panic ch) a' w') →
  (∀env' a' w',Rep env' a'→a'.tmps.size=n→a'.defers=a.defers→Keep W a a'→k env' w'→Q .normal a' w')→wpList P ops Q l a w
 | [],env,a,w,k,hrep,hn,hd,hW,h,hp,hk=>hk env a w hrep hn rfl (Keep.refl _ _) h
 | o :: rest,env,a,w,k,hrep,hn,hd,hW,h,hp,hk=>by
   unfold Z6G at h
   unfold wpList
   have hdo:ZDt n o:=hd o (by simp)
   rcases Z58 hrep h with ⟨hw,env',hrep',h⟩ | ⟨hw,env',hrep',h⟩
   ·rw [if_pos hw]
    refine .inl (Z8K hrep' h (fun ch w' hf=>hp ch a w' rfl (Keep.refl _ _) hf) fun sv w' hr=>?_)
    refine Z2p rest _ _ _ k (hrep'.put fun d hd'=>by rw [hn]; exact hdo d hd') (by rw [put_size,hn]) (fun o ho=>hd o (by simp [ho])) (fun o ho=>hW o (by simp [ho])) hr (fun ch a' w' hd' hkp hf=>hp ch a' w' (by rw [hd',Z01]) ((Keep.put (hW o (by simp))).trans hkp) hf) ?_
    intro env'' a'' w'' h1 h2 h3 h5 h4
    exact hk _ _ _ h1 h2 (by rw [h3,Z01]) ((Keep.put (hW o (by simp))).trans h5) h4
   ·rw [if_neg (by simp [hw])]
    have hrep2:Rep (ZDP env' o.dst (.tup [])) (a.put o.dst undef):=hrep'.put (sv:=.tup []) fun d hd'=>by rw [hn]; exact hdo d hd'
    refine Z2p rest _ _ _ k hrep2 (by rw [put_size,hn]) (fun o ho=>hd o (by simp [ho])) (fun o ho=>hW o (by simp [ho])) h (fun ch a' w' hd' hkp hf=>hp ch a' w' (by rw [hd',Z01]) ((Keep.put (hW o (by simp))).trans hkp) hf) ?_
    intro env'' a'' w'' h1 h2 h3 h5 h4
    exact hk _ _ _ h1 h2 (by rw [h3,Z01]) ((Keep.put (hW o (by simp))).trans h5) h4

def ZDS (p:ZFs pC):Prop:=∀w r,p.again w r→r
theorem Z61 {ops:Array Oper} {j:Nat} {w:World}:∀(ps:List (ZFs pC)) (r:Prop),(∀p∈ps,ZDS p)→Z3h ops j w ps r →
  (∀p∈ps,(Z2h ops p.i).getD j false=false→∃r',p.again w r')∧r
 | [],r,_,h=>⟨by simp,h⟩
 | p :: ps,r,hok,h=>by
   unfold Z3h at h
   have hps:=fun q hq=>hok q (List.mem_cons_of_mem p hq)
   split at h
   ·rename_i hd
    obtain ⟨h1,h2⟩:=Z61 ps r hps h
    refine ⟨fun q hq hqd=>?_,h2⟩
    rcases List.mem_cons.1 hq with rfl | hq
    ·rw [hd] at hqd; cases hqd
    ·exact h1 q hq hqd
   ·have hr:=hok p (by simp) _ _ h
    obtain ⟨h1,h2⟩:=Z61 ps r hps hr
    refine ⟨fun q hq hqd=>?_,h2⟩
    rcases List.mem_cons.1 hq with rfl | hq
    ·exact ⟨_,h⟩
    ·exact h1 q hq hqd
theorem Z7B:∀(rs:List Prop),ZDe (pA P R) rs→∀r∈rs,r
 | [],h,_,_=>h.elim
 | [r],h,r',hr=>by rw [List.mem_singleton.1 hr]; exact h
 | r :: r2 :: rs,h,r',hr=>by
   obtain ⟨h1,h2⟩:=h
   rcases List.mem_cons.1 hr with rfl | hr
   ·exact h1
   ·exact Z7B (r2 :: rs) h2 r' hr
theorem Z2w {ops:Array Oper}:∀(rs:List Nat) (i:Nat),Z3X P ops rs=some i→i∈rs∧ZG0 ops i=true∧∃o,ops[i]?=some o
 | [],i,h=>by cases h
 | r :: rs,i,h=>by
   unfold Z3X at h
   split at h
   ·rename_i o ho
    split at h
    ·rename_i hq
     simp only [Bool.and_eq_true] at hq
     cases h; exact ⟨by simp,hq.2,o,ho⟩
    ·obtain ⟨h1,h2⟩:=Z2w rs i h
     exact ⟨List.mem_cons_of_mem _ h1,h2⟩
   ·obtain ⟨h1,h2⟩:=Z2w rs i h
    exact ⟨List.mem_cons_of_mem _ h1,h2⟩

def Z50 (P:Program) (ops:Array Oper) (listed:Array Bool) (a:Act) (pend:List (ZFs pC)) (pv:List (Nat×Value)):Prop :=
 ∀q∈pv,listed.getD q.1 false=true∧((∀w,YA P ops q.1 q.2 a w)∨∃p∈pend,p.i=q.1∧∀w r,p.again w r→YA P ops q.1 q.2 a w)

theorem Z50.step {ops:Array Oper} {listed:Array Bool} {a:Act} {pend:List (ZFs pC)} {pv:List (Nat×Value)} (hs:ssa ops=true) (hc:Z2A ops listed) (h:Z50 P ops listed a pend pv)
  {j:Nat} {oj:Oper} (hj:j∈Region.ready .any ops listed) (hoj:ops[j]?=some oj) (hf:ZG0 ops j=true) (u:Value):Z50 P ops (listed.setIfInBounds j true) (a.put oj.dst u) pend pv:=by
 intro q hq
 obtain ⟨h1,h2⟩:=h q hq
 obtain ⟨_,hlj⟩:=Z3w hj
 refine ⟨getD_set_true h1,?_⟩
 rcases h2 with h2 | ⟨p,hp,hpi,h2⟩
 ·exact .inl fun w=>(h2 w).put_later hs hc hoj (.inl hf) hlj h1
 ·exact .inr ⟨p,hp,hpi,fun w r hr=>(h2 w r hr).put_later hs hc hoj (.inl hf) hlj h1⟩
theorem Z50.event {ops:Array Oper} {listed:Array Bool} {a:Act} {pend:List (ZFs pC)} {pv:List (Nat×Value)} (hs:ssa ops=true) (hc:Z2A ops listed) (h:Z50 P ops listed a pend pv)
  {j:Nat} {oj:Oper} (hj:j∈Region.ready .any ops listed) (hoj:ops[j]?=some oj) (u:Value) :
  Z50 P ops (listed.setIfInBounds j true) (a.put oj.dst u) (pend.filter fun p=> !(Z2h ops p.i).getD j false) (pv.filter fun p=> !(Z2h ops p.1).getD j false):=by
 intro q hq
 obtain ⟨hq,hqd⟩:=List.mem_filter.1 hq
 have hqd:(Z2h ops q.1).getD j false=false:=by
  cases hb:(Z2h ops q.1).getD j false with
  | false=>rfl
  | true=>rw [hb] at hqd; cases hqd
 obtain ⟨h1,h2⟩:=h q hq
 obtain ⟨_,hlj⟩:=Z3w hj
 refine ⟨getD_set_true h1,?_⟩
 rcases h2 with h2 | ⟨p,hp,hpi,h2⟩
 ·exact .inl fun w=>(h2 w).put_later hs hc hoj (.inr hqd) hlj h1
 ·refine .inr ⟨p,List.mem_filter.2 ⟨hp,?_⟩,hpi,fun w r hr=>(h2 w r hr).put_later hs hc hoj (.inr hqd) hlj h1⟩
  rw [hpi,hqd]; rfl

theorem Z28 {ops:Array Oper} {n:Nat} {W:List Tmp} {Q:Exit→Act→World→Prop} (hs:ssa ops=true) (hd:∀o∈ops,ZDt n o) (hW:∀o∈ops,∀d,o.dst=some d→d∈W):∀(fuel:Nat) (listed:Array Bool) (pend:List (ZFs pC)) (pv:List (Nat×Value)) (env:Env pC) (a:Act) (w:World) (k:Env pC→World→Prop),
  listed.size=ops.size→Z2A ops listed→Rep env a→a.tmps.size=n→(∀p∈pend,ZDS p)→Z50 P ops listed a pend pv →
  Z3x (pA P R) P ops fuel listed pend env w k→(∀ch (a':Act) w',a'.defers=a.defers→Keep W a a'→R.fin (.panicked ch) w'→Q (.panic ch) a' w') →
  (∀env' a' w',Rep env' a'→a'.tmps.size=n→a'.defers=a.defers→Keep W a a'→k env' w'→Q .normal a' w')→wpG P ops Q fuel listed pv a w
 | 0,_,_,_,_,_,_,_,_,_,_,_,_,_,h,_,_=>h.elim
 | fuel+1,listed,pend,pv,env,a,w,k,hsz,hcl,hrep,hn,hok,hpr,h,hp,hk=>by
   unfold Z3x at h
   unfold wpG
   split at h
   ·rename_i hr
    exact .inl ⟨hr,hk env a w hrep hn rfl (Keep.refl _ _) h⟩
   ·rename_i rs hne
    split at h
    ·rename_i i hi
     obtain ⟨him,hfi,o,ho⟩:=Z2w _ _ hi
     rw [ho] at h
     simp only at h
     obtain ⟨hilt,hiu⟩:=Z3w him
     have hdo:∀d,o.dst=some d→d < a.tmps.size:=fun d hd'=>by rw [hn]; exact hd o (Array.mem_of_getElem? ho) d hd'
     have his:i < listed.size:=by rw [hsz]; exact hilt
     have hsz':(listed.setIfInBounds i true).size=ops.size:=by simpa using hsz
     have hself:∀(v:Value) (u:Value) (w:World),YA P ops i u a w→YA P ops i u (a.put o.dst v) w:=by
      intro v u w hy
      refine hy.of_same hs fun o' ho' d hd'=>(Z1J fun hdst=>?_).symm
      rw [ho] at ho'; cases ho'
      exact ((Z40 hs ho).2 d hdst).1 hd'
     rcases Z58 hrep h with ⟨hw,env',hrep',h⟩ | ⟨hw,env',hrep',h⟩
     ·split at h
      ·rename_i r hpo
       obtain ⟨sv,h1,h2⟩:=Z6a hrep' hpo h
       have hya:∀w,YA P ops i (toV sv) a w:=fun w=>⟨o,ho,.inl ⟨hw,h1 w⟩⟩
       refine .inr (.inl ⟨i,o,toV sv,him,ho,hfi,hya w,?_⟩)
       refine Z28 hs hd hW fuel _ pend _ _ _ w k hsz' (hcl.set him) (hrep'.put hdo) (by rw [put_size,hn]) hok ?_ h2 (fun ch a' w' hd' hkp hf=>hp ch a' w' (by rw [hd',Z01]) ((Keep.put (hW o (Array.mem_of_getElem? ho))).trans hkp) hf) ?_
       ·intro q hq
        rcases List.mem_cons.1 hq with rfl | hq
        ·exact ⟨Z19 his,.inl fun w=>hself _ _ _ (hya w)⟩
        ·exact hpr.step hs hcl him ho hfi _ q hq
       ·intro env'' a'' w'' h3 h4 h5 h7 h6
        exact hk _ _ _ h3 h4 (by rw [h5,Z01]) ((Keep.put (hW o (Array.mem_of_getElem? ho))).trans h7) h6
      ·obtain ⟨sv,h1,h2,h3⟩:=Z6d hrep' h
       have hya:YA P ops i (toV sv) a w:=⟨o,ho,.inl ⟨hw,h1⟩⟩
       refine .inr (.inl ⟨i,o,toV sv,him,ho,hfi,hya,?_⟩)
       refine Z28 hs hd hW fuel _ _ _ _ _ w k hsz' (hcl.set him) (hrep'.put hdo) (by rw [put_size,hn]) ?_ ?_ h2 (fun ch a' w' hd' hkp hf=>hp ch a' w' (by rw [hd',Z01]) ((Keep.put (hW o (Array.mem_of_getElem? ho))).trans hkp) hf) ?_
       ·exact List.forall_mem_cons.2 ⟨fun w r hr=>(h3 w r hr).2,hok⟩
       ·intro q hq
        rcases List.mem_cons.1 hq with rfl | hq
        ·refine ⟨Z19 his,.inr ⟨⟨i,Z4g (pA P R) P o (ev (pA P R) env') sv⟩,List.mem_cons_self,rfl,fun w r hr=>hself _ _ _ ⟨o,ho,.inl ⟨hw,(h3 w r hr).1⟩⟩⟩⟩
        ·obtain ⟨h4,h5⟩:=hpr.step hs hcl him ho hfi (toV sv) q hq
         refine ⟨h4,?_⟩
         rcases h5 with h5 | ⟨p,hp,h5⟩
         ·exact .inl h5
         ·exact .inr ⟨p,List.mem_cons_of_mem _ hp,h5⟩
       ·intro env'' a'' w'' h3 h4 h5 h7 h6
        exact hk _ _ _ h3 h4 (by rw [h5,Z01]) ((Keep.put (hW o (Array.mem_of_getElem? ho))).trans h7) h6
     ·have hya:∀w,YA P ops i undef a w:=fun w=>⟨o,ho,.inr ⟨hw,rfl⟩⟩
      refine .inr (.inl ⟨i,o,undef,him,ho,hfi,hya w,?_⟩)
      have hrep2:Rep (ZDP env' o.dst (.tup [])) (a.put o.dst undef):=hrep'.put (sv:=.tup []) hdo
      refine Z28 hs hd hW fuel _ pend _ _ _ w k hsz' (hcl.set him) hrep2 (by rw [put_size,hn]) hok ?_ h (fun ch a' w' hd' hkp hf=>hp ch a' w' (by rw [hd',Z01]) ((Keep.put (hW o (Array.mem_of_getElem? ho))).trans hkp) hf) ?_
      ·intro q hq
       rcases List.mem_cons.1 hq with rfl | hq
       ·exact ⟨Z19 his,.inl fun w=>hself _ _ _ (hya w)⟩
       ·exact hpr.step hs hcl him ho hfi _ q hq
      ·intro env'' a'' w'' h3 h4 h5 h7 h6
       exact hk _ _ _ h3 h4 (by rw [h5,Z01]) ((Keep.put (hW o (Array.mem_of_getElem? ho))).trans h7) h6
    ·refine .inr (.inr ⟨hne,fun j hj=>?_⟩)
     obtain ⟨hjlt,hju⟩:=Z3w hj
     have h:=Z7B _ h _ (List.mem_map.2 ⟨j,hj,rfl⟩)
     obtain ⟨oj,hoj⟩:∃oj,ops[j]?=some oj:=⟨_,Array.getElem?_eq_getElem hjlt⟩
     simp only [hoj] at h
     have hdo:∀d,oj.dst=some d→d < a.tmps.size:=fun d hd'=>by rw [hn]; exact hd oj (Array.mem_of_getElem? hoj) d hd'
     have hsz':(listed.setIfInBounds j true).size=ops.size:=by simpa using hsz
     have fin:∀(env':Env pC) (sv:SV pC) (w':World),Rep env' a →
       Z3h ops j w' pend (Z3x (pA P R) P ops fuel (listed.setIfInBounds j true) (pend.filter fun p=> !(Z2h ops p.i).getD j false) (ZDP env' oj.dst sv) w' k) →
       (∀p∈pv,(Z2h ops p.1).getD j false=false→YA P ops p.1 p.2 (a.put oj.dst (toV sv)) w') ∧
         wpG P ops Q fuel (listed.setIfInBounds j true) (pv.filter fun p=> !(Z2h ops p.1).getD j false) (a.put oj.dst (toV sv)) w':=by
      intro env' sv w' hrep' hag
      obtain ⟨h1,h2⟩:=Z61 _ _ hok hag
      have hpr':=hpr.event hs hcl hj hoj (toV sv)
      refine ⟨fun q hq hqd=>?_,?_⟩
      ·rcases (hpr' q (List.mem_filter.2 ⟨hq,by rw [hqd]; rfl⟩)).2 with h3 | ⟨p,hp,hpi,h3⟩
       ·exact h3 w'
       ·obtain ⟨r',hr'⟩:=h1 p (List.mem_filter.1 hp).1 (by rw [hpi]; exact hqd)
        exact h3 w' r' hr'
      ·refine Z28 hs hd hW fuel _ _ _ _ _ w' k hsz' (hcl.set hj) (hrep'.put hdo) (by rw [put_size,hn]) (fun p hp=>hok p (List.mem_filter.1 hp).1) hpr' h2 (fun ch a' w' hd' hkp hf=>hp ch a' w' (by rw [hd',Z01]) ((Keep.put (hW oj (Array.mem_of_getElem? hoj))).trans hkp) hf) ?_
       intro env'' a'' w'' h3 h4 h5 h7 h6
       exact hk _ _ _ h3 h4 (by rw [h5,Z01]) ((Keep.put (hW oj (Array.mem_of_getElem? hoj))).trans h7) h6
     unfold wpOp
     simp only [hoj]
     rcases Z58 hrep h with ⟨hw,env',hrep',h⟩ | ⟨hw,env',hrep',h⟩
     ·rw [if_pos hw]
      exact .inl (Z8K hrep' h (fun ch w' hf=>hp ch a w' rfl (Keep.refl _ _) hf) fun sv w' hr=>fin env' sv w' hrep' hr)
     ·rw [if_neg (by simp [hw])]
      exact fin env' (.tup []) w hrep' h
end Go.Vcg
end
section
namespace Go.Vcg
variable {P:Program} {R:Z6N}

theorem Z9X {c:Code} {Q:Exit→Act→World→Prop} {a:Act} {w:World} (I:Nat→Act→World→Prop) {n:Nat} (h₀:I n a w)
  (round:∀n a w,I n a w→c.wp P (Exit.then (fun a' w'=>∃m,m < n∧I m a' w') Q) a w):(Code.loop c).wp P Q a w:=by
 intro b k cs
 have key:∀n a w,I n a w→∃e a' w',Q e a' w'∧Arrives P (lone (b.at a (.code c :: .inLoop c :: k)) cs w) b k cs e a' w':=by
  intro n
  induction n using Nat.strongRecOn with
  | _ n ih =>
    intro a w hI
    obtain ⟨e,a₁,w₁,hq,harr⟩:=round n a w hI b (.inLoop c :: k) cs
    cases e with
    | normal =>
      obtain ⟨m,hlt,hI₁⟩:=hq
      obtain ⟨e₂,a₂,w₂,hq₂,harr₂⟩:=ih m hlt a₁ w₁ hI₁
      exact ⟨e₂,a₂,w₂,hq₂,.of_steps (Steps.trans harr (.one step_inLoop)) harr₂⟩
    | exit id=>exact ⟨_,a₁,w₁,hq,.pass (x:=.inLoop c) rfl (fun _ _=>.inl (by simp)) harr⟩
    | goto l=>exact ⟨_,a₁,w₁,hq,.pass (x:=.inLoop c) rfl (fun _ _=>.inl (by simp)) harr⟩
    | ret=>exact ⟨_,a₁,w₁,hq,.pass (x:=.inLoop c) rfl (fun _ _=>.inl (by simp)) harr⟩
    | panic ch=>exact ⟨_,a₁,w₁,hq,.pass (x:=.inLoop c) rfl (fun _ _=>.inl (by simp)) harr⟩
    | outgrown=>exact ⟨_,a₁,w₁,hq,.pass (x:=.inLoop c) rfl (fun _ _=>.inl (by simp)) harr⟩
 obtain ⟨e,a',w',hq,harr⟩:=key n a w h₀
 exact ⟨e,a',w',hq,.of_steps (.one step_loop) harr⟩

def InC:Z76→SV pC→Prop
 | .int k,sv=>∃n:Int,sv=.int k n
 | .bool,sv=>∃b:Bool,sv=.bool (.var b)
 | .str,sv=>∃s:ByteArray,sv=.str s
 | .ptr,sv=>∃o:Option Addr,sv=.ptr o
 | .slice,sv=>∃(o:Option Addr) (l c:Nat),sv=.slice o l c
 | .map,sv=>∃m:Option Nat,sv=.map m
 | .raw,sv=>∃v:Value,sv=.raw v
 | .addr,sv=>∃d:Addr,sv=.addr d
def InCs:List Z76→List (SV pC)→Prop
 | [],svs=>svs=[]
 | c :: cs,svs=>∃v vs,svs=v :: vs∧InC c v∧InCs cs vs
def In1:Shape1→SV pC→Prop
 | .cell c,sv=>InC c sv
 | .agg cs,sv=>∃vs,sv=.agg vs∧InCs cs vs
 | .big n,sv=>∃l:Array Value,sv=.big n l
def InT:List Shape1→List (SV pC)→Prop
 | [],svs=>svs=[]
 | s :: ss,svs=>∃v vs,svs=v :: vs∧In1 s v∧InT ss vs

theorem ZC0:∀(c:Z76) (f:SV pC→Prop) (sv:SV pC),ZGJ c f→InC c sv→f sv
 | .int _,f,_,h,⟨n,e⟩=>e ▸ h n
 | .bool,f,_,h,⟨n,e⟩=>e ▸ h n
 | .str,f,_,h,⟨n,e⟩=>e ▸ h n
 | .ptr,f,_,h,⟨n,e⟩=>e ▸ h n
 | .slice,f,_,h,⟨o,l,c,e⟩=>e ▸ h o l c
 | .map,f,_,h,⟨n,e⟩=>e ▸ h n
 | .raw,f,_,h,⟨n,e⟩=>e ▸ h n
 | .addr,f,_,h,⟨n,e⟩=>e ▸ h n
theorem Z9k:∀(cs:List Z76) (f:List (SV pC)→Prop) (svs:List (SV pC)),ZC1 cs f→InCs cs svs→f svs
 | [],f,_,h,e=>by cases e; exact h
 | c :: cs,f,_,h,⟨v,vs,e,h1,h2⟩=>by
   subst e
   exact Z9k cs (fun vs=>f (v :: vs)) vs (ZC0 c (fun v=>ZC1 cs fun vs=>f (v :: vs)) v h h1) h2
theorem ZFA:∀(s:Shape1) (f:SV pC→Prop) (sv:SV pC),ZHY s f→In1 s sv→f sv
 | .cell c,f,sv,h,hi=>ZC0 c f sv h hi
 | .agg cs,f,_,h,⟨vs,e,hi⟩=>by subst e; exact Z9k cs (fun vs=>f (.agg vs)) vs h hi
 | .big n,f,_,h,⟨l,e⟩=>e ▸ h l
theorem Z8x:∀(ss:List Shape1) (f:List (SV pC)→Prop) (svs:List (SV pC)),ZDd ss f→InT ss svs→f svs
 | [],f,_,h,e=>by cases e; exact h
 | s :: ss,f,_,h,⟨v,vs,e,h1,h2⟩=>by
   subst e
   exact Z8x ss (fun vs=>f (v :: vs)) vs (ZFA s (fun v=>ZDd ss fun vs=>f (v :: vs)) v h h1) h2

theorem Z9l:∀(c:Z76) (sv:SV pC),(∃(T:Type) (I:ZHS c T),(ZAr c I sv).isSome)→∃sv',InC c sv'∧toV sv'=toV sv∧∀(T:Type) (I:ZHS c T),ZAr c I sv'=ZAr c I sv
 | c,sv,⟨T,I,h⟩=>by
   cases c with
   | int k =>
     cases sv <;> simp only [ZAr] at h <;> first
      | (cases h; done)
      | (split at h
         ·rename_i hk; subst hk; exact ⟨.int k _,⟨_,rfl⟩,rfl,fun T I=>rfl⟩
         ·cases h)
   | bool =>
     cases sv <;> simp only [ZAr] at h <;> first
      | (cases h; done)
      | exact ⟨.bool (.var (den _)),⟨_,rfl⟩,rfl,fun T I=>rfl⟩
      | exact ⟨.bool (.var _),⟨_,rfl⟩,rfl,fun T I=>rfl⟩
   | str=>cases sv <;> simp only [ZAr] at h <;> first
    | (cases h; done)
    | exact ⟨.str _,⟨_,rfl⟩,rfl,fun T I=>rfl⟩
   | ptr=>cases sv <;> simp only [ZAr] at h <;> first
    | (cases h; done)
    | exact ⟨.ptr _,⟨_,rfl⟩,rfl,fun T I=>rfl⟩
    | exact ⟨.ptr (some _),⟨_,rfl⟩,rfl,fun T I=>rfl⟩
   | slice=>cases sv <;> simp only [ZAr] at h <;> first
    | (cases h; done)
    | exact ⟨.slice _ _ _,⟨_,_,_,rfl⟩,rfl,fun T I=>rfl⟩
   | map=>cases sv <;> simp only [ZAr] at h <;> first
    | (cases h; done)
    | exact ⟨.map _,⟨_,rfl⟩,rfl,fun T I=>rfl⟩
   | raw=>exact ⟨.raw (toV sv),⟨_,rfl⟩,rfl,fun T I=>by cases sv <;> rfl⟩
   | addr=>cases sv <;> simp only [ZAr] at h <;> first
    | (cases h; done)
    | exact ⟨.addr _,⟨_,rfl⟩,rfl,fun T I=>rfl⟩

theorem Z8E:∀(cs:List Z76) (svs:List (SV pC)),(∃(T:Type) (I:ZDT cs T),(ZB3 cs I svs).isSome)→∃svs',InCs cs svs'∧toVs svs'=toVs svs∧∀(T:Type) (I:ZDT cs T),ZB3 cs I svs'=ZB3 cs I svs
 | [],[],_=>⟨[],rfl,rfl,fun _ _=>rfl⟩
 | [],v :: vs,⟨T,I,h⟩=>by cases h
 | c :: cs,[],⟨T,I,h⟩=>by cases h
 | c :: cs,v :: vs,⟨T,I,h⟩=>by
   simp only [ZB3] at h
   cases hc:ZAr c I v with
   | none=>rw [hc] at h; cases h
   | some I' =>
     rw [hc] at h
     obtain ⟨v',h1,h2,h3⟩:=Z9l c v ⟨_,I,by rw [hc]; rfl⟩
     obtain ⟨vs',h4,h5,h6⟩:=Z8E cs vs ⟨T,I',h⟩
     refine ⟨v' :: vs',⟨v',vs',rfl,h1,h4⟩,by simp only [toVs,h2,h5],fun T I=>?_⟩
     simp only [ZB3]
     rw [show ZAr c I v'=ZAr c I v from h3 _ I]
     cases ZAr c I v with
     | none=>rfl
     | some J=>exact h6 T J
theorem ZDh:∀(s:Shape1) (sv:SV pC),(∃(T:Type) (I:Inv1 s T),(ZF7 s I sv).isSome)→∃sv',In1 s sv'∧toV sv'=toV sv∧∀(T:Type) (I:Inv1 s T),ZF7 s I sv'=ZF7 s I sv
 | .cell c,sv,h=>Z9l c sv h
 | .agg cs,sv,⟨T,I,h⟩=>by
   cases sv <;> simp only [ZF7] at h <;> first
    | (cases h; done)
    | (obtain ⟨vs',h1,h2,h3⟩:=Z8E cs _ ⟨T,I,h⟩
       exact ⟨.agg vs',⟨vs',rfl,h1⟩,by simp only [toV,h2],fun T I=>h3 T I⟩)
 | .big n,sv,⟨T,I,h⟩=>by
   cases sv <;> simp only [ZF7] at h <;> first
    | (cases h; done)
    | (split at h
       ·rename_i hk; subst hk; exact ⟨.big n _,⟨_,rfl⟩,rfl,fun T I=>rfl⟩
       ·cases h)
theorem Z7C:∀(ss:List Shape1) (svs:List (SV pC)),(∃(T:Type) (I:ZGG ss T) (w:World),(Z9Z ss I svs w).isSome)→∃svs',InT ss svs'∧toVs svs'=toVs svs∧∀(T:Type) (I:ZGG ss T) (w:World),Z9Z ss I svs' w=Z9Z ss I svs w
 | [],[],_=>⟨[],rfl,rfl,fun _ _ _=>rfl⟩
 | [],v :: vs,⟨T,I,w,h⟩=>by cases h
 | s :: ss,[],⟨T,I,w,h⟩=>by cases h
 | s :: ss,v :: vs,⟨T,I,w,h⟩=>by
   simp only [Z9Z] at h
   cases hc:ZF7 s I v with
   | none=>rw [hc] at h; cases h
   | some I' =>
     rw [hc] at h
     obtain ⟨v',h1,h2,h3⟩:=ZDh s v ⟨_,I,by rw [hc]; rfl⟩
     obtain ⟨vs',h4,h5,h6⟩:=Z7C ss vs ⟨T,I',w,h⟩
     refine ⟨v' :: vs',⟨v',vs',rfl,h1,h4⟩,by simp only [toVs,h2,h5],fun T I w=>?_⟩
     simp only [Z9Z]
     rw [show ZF7 s I v'=ZF7 s I v from h3 _ I]
     cases ZF7 s I v with
     | none=>rfl
     | some J=>exact h6 T J w

theorem Z7t {o:Option Prop} (h:ZFk o):o.isSome:=by cases o <;> first | rfl | cases h

theorem ZCD {e1 e2:Env pC} {t:Nat}:Z3g (e1++e2) t=if (e1.any fun p=>Nat.beq p.1 t) then Z3g e1 t else Z3g e2 t:=by
 induction e1 with
 | nil=>simp [Z3g]
 | cons p e1 ih =>
   obtain ⟨u,v⟩:=p
   simp only [List.cons_append,Z3g,List.any_cons]
   by_cases hb:Nat.beq u t=true
   ·simp [hb]
   ·have hb:Nat.beq u t=false:=Bool.eq_false_iff.2 hb
    simp only [hb,cond_false,Bool.false_or]
    exact ih
theorem ZCE:∀(ts:List Tmp) (vs vs':List (SV pC)) (t:Nat),toVs vs=toVs vs'→toV (Z3g (ts.zip vs) t)=toV (Z3g (ts.zip vs') t)
 | [],_,_,_,_=>rfl
 | _ :: _,[],[],_,_=>rfl
 | _ :: _,[],_ :: _,_,h=>by simp [toVs] at h
 | _ :: _,_ :: _,[],_,h=>by simp [toVs] at h
 | u :: ts,v :: vs,v' :: vs',t,h=>by
   simp only [toVs,List.cons.injEq] at h
   simp only [List.zip_cons_cons,Z3g]
   cases Nat.beq u t with
   | true=>exact h.1
   | false=>exact ZCE ts vs vs' t h.2
theorem ZDg:∀(ts:List Tmp) (vs:List (SV pC)) (t:Nat),vs.length=ts.length→((ts.zip vs).any fun p=>Nat.beq p.1 t)=ts.any fun u=>Nat.beq u t
 | [],_,_,_=>rfl
 | u :: ts,[],_,h=>by cases h
 | u :: ts,v :: vs,t,h=>by
   simp only [List.zip_cons_cons,List.any_cons]
   rw [ZDg ts vs t (by simpa using h)]

theorem ZCI {env env':Env pC} {a a':Act} {live written:List Tmp} {svs:List (SV pC)} (hr:Rep env a) (hr':Rep env' a')
  (hlen:svs.length=live.length) (hcar:toVs svs=toVs (live.map (Z3g env'))) (hkeep:∀t,t ∉ written→a'.tmps.getD t undef=a.tmps.getD t undef) :
  Rep (Z7R (pA P R) (fun t=>a'.tmps.getD t undef) live svs written env) a':=by
 intro t
 unfold Z7R
 rw [List.append_assoc,ZCD,ZDg live svs t hlen]
 split
 ·rename_i hmem
  rw [ZCE live svs _ t hcar]
  obtain ⟨u,hu,hb⟩:=List.any_eq_true.1 hmem
  have key:∀(ts:List Tmp),(∃u∈ts,Nat.beq u t=true)→toV (Z3g (ts.zip (ts.map (Z3g env'))) t)=toV (Z3g env' t):=by
   intro ts
   induction ts with
   | nil=>rintro ⟨u,hu,_⟩; cases hu
   | cons x ts ih =>
     rintro ⟨u,hu,hb⟩
     simp only [List.map_cons,List.zip_cons_cons,Z3g]
     cases hx:Nat.beq x t with
     | true=>rw [Nat.eq_of_beq_eq_true hx]; rfl
     | false =>
       refine ih ⟨u,?_,hb⟩
       rcases List.mem_cons.1 hu with rfl | hu
       ·rw [hx] at hb; cases hb
       ·exact hu
  rw [key live ⟨u,hu,hb⟩]
  exact hr' t
 ·rw [ZCD]
  split
  ·rename_i hmem
   have key:∀(ws:List Tmp),(∃u∈ws,Nat.beq u t=true)→toV (Z3g (ws.map fun u=>(u,SV.raw (C:=pC) ((pA P R).junk (fun t=>a'.tmps.getD t undef) u))) t)=a'.tmps.getD t undef:=by
    intro ws
    induction ws with
    | nil=>rintro ⟨u,hu,_⟩; cases hu
    | cons x ws ih =>
      rintro ⟨u,hu,hb⟩
      simp only [List.map_cons,Z3g]
      cases hx:Nat.beq x t with
      | true=>rw [Nat.eq_of_beq_eq_true hx]; rfl
      | false =>
        refine ih ⟨u,?_,hb⟩
        rcases List.mem_cons.1 hu with rfl | hu
        ·rw [hx] at hb; cases hb
        ·exact hu
   rw [key written]
   obtain ⟨p,hp,hb⟩:=List.any_eq_true.1 hmem
   obtain ⟨u,hu,rfl⟩:=List.mem_map.1 hp
   exact ⟨u,hu,hb⟩
  ·rename_i hno
   rw [hkeep t ?_]
   ·exact hr t
   ·intro hmem
    apply hno
    refine List.any_eq_true.2 ⟨(t,_),List.mem_map.2 ⟨t,hmem,rfl⟩,?_⟩
    exact Nat.beq_refl t

structure Post (n:Nat) (W:List Tmp) (K:Kont pC) (a:Act) (Q:Exit→Act→World→Prop):Prop where
 nrm:∀env' a' w',Rep env' a'→a'.tmps.size=n→a'.defers=a.defers→Keep W a a'→K.nrm env' w'→Q .normal a' w'
 exit:∀i env' a' w',Rep env' a'→a'.tmps.size=n→a'.defers=a.defers→Keep W a a'→K.exit i env' w'→Q (.exit i) a' w'
 ret:∀env' a' w',Rep env' a'→a'.tmps.size=n→a'.defers=a.defers→Keep W a a'→K.ret env' w'→Q .ret a' w'

theorem Z67 {ann:List (Nat×List (Tmp×Shape1))} (hm:P.follows .mixedOrders=true) {n:Nat}:∀(c:Code) (W:List Tmp) (env:Env pC) (a:Act) (w:World) (K:Kont pC) (Q:Exit→Act→World→Prop),
  Rep env a→a.tmps.size=n→Z1Y n c=true→(∀t∈Zr c,t∈W)→(∀ch (a a':Act) w,a.defers=a'.defers→(∀t,t ∉ W→a.tmps.getD t undef=a'.tmps.getD t undef)→Q (.panic ch) a w→Q (.panic ch) a' w)→(∀ch (a':Act) w',a'.defers=a.defers→Keep W a a'→R.fin (.panicked ch) w'→Q (.panic ch) a' w') →
  Z8A (pA P R) P ann c env w K→Post n W K a Q→c.wp P Q a w:=by
 intro c
 induction c with
 | skip=>intro W env a w K Q hrep hn hs hW hQ hR h hp; exact wp_skip (hp.nrm _ _ _ hrep hn rfl (Keep.refl _ _) h)
 | region id ops draw =>
   intro W env a w K Q hrep hn hs hW hQ hR h hp
   have hd:∀o∈ops,ZDt n o:=by
    intro o ho d hdst
    have:=Array.all_eq_true_iff_forall_mem.1 hs o ho
    simp only [hdst,decide_eq_true_eq] at this
    exact this
   have hW':∀o∈ops,∀d,o.dst=some d→d∈W:=by
    intro o ho d hdst
    refine hW d ?_
    simp only [Zr,List.mem_filterMap,Array.mem_toList_iff]
    exact ⟨o,ho,hdst⟩
   unfold Z8A at h
   cases draw with
   | true =>
     simp only [if_true] at h
     split at h
     ·rename_i hssa
      have h:=h _ rfl
      refine ZBu hm hssa (fun ch a a' w hd hk=>hQ ch a a' w hd (fun t ht=>by rw [Array.getD_eq_getD_getElem?,Array.getD_eq_getD_getElem?,hk t (fun q o ho hdst=>ht (hW' o (Array.mem_of_getElem? ho) t hdst))])) (Z28 hssa hd hW' _ _ [] [] env a _ K.nrm (by simp) (Z2A.start _ _) hrep hn (by simp) (by intro q hq; cases hq) h hR hp.nrm)
     ·exact h.elim
   | false =>
     simp only [Bool.false_eq_true,if_false] at h
     exact wp_region_list (Z2p ops.toList env a w K.nrm hrep hn (fun o ho=>hd o (Array.mem_toList_iff.1 ho)) (fun o ho=>hW' o (Array.mem_toList_iff.1 ho)) h hR hp.nrm)
 | seq x y ihx ihy =>
   intro W env a w K Q hrep hn hs hW hQ hR h hp
   simp only [Z1Y,Bool.and_eq_true] at hs
   simp only [Zr,List.mem_append] at hW
   unfold Z8A at h
   split at h
   ·refine wp_seq (ihx W env a w _ _ hrep hn hs.1 (fun t ht=>hW t (.inl ht)) (fun ch a a' w=>hQ ch a a' w) (fun ch a' w'=>hR ch a' w') h ?_)
    exact {
     nrm:=fun env' a' w' h1 h2 h3 h4 h5=>ihy W env' a' w' K Q h1 h2 hs.2 (fun t ht=>hW t (.inr ht)) hQ (fun ch a2 w2 hd hk=>hR ch a2 w2 (hd.trans h3) (h4.trans hk)) h5 {
      nrm:=fun env'' a'' w'' g1 g2 g3 g4 g5=>hp.nrm _ _ _ g1 g2 (g3.trans h3) (h4.trans g4) g5
      exit:=fun i env'' a'' w'' g1 g2 g3 g4 g5=>hp.exit _ _ _ _ g1 g2 (g3.trans h3) (h4.trans g4) g5
      ret:=fun env'' a'' w'' g1 g2 g3 g4 g5=>hp.ret _ _ _ g1 g2 (g3.trans h3) (h4.trans g4) g5 }
     exit:=fun i env' a' w' h1 h2 h3 h4 h5=>hp.exit i _ _ _ h1 h2 h3 h4 h5
     ret:=fun env' a' w' h1 h2 h3 h4 h5=>hp.ret _ _ _ h1 h2 h3 h4 h5 }
   ·rename_i id live hann
    obtain ⟨I,hpre,hrest⟩:=h
    have hlen:∀e:Env pC,((live.map (·.1)).map (Z3g e)).length=(live.map (·.1)).length:=fun e=>by simp
    refine wp_seq (ihx (Zr x) env a w _ _ hrep hn hs.1 (fun t ht=>ht) (fun ch a1 a2 w hd hk=>hQ ch a1 a2 w hd (fun t ht=>hk t (fun hm=>ht (hW t (.inl hm))))) (fun ch a' w' hd hk=>hR ch a' w' hd (hk.mono fun t ht=>hW t (.inl ht))) hpre ?_)
    exact {
     nrm:=fun env' a' w' h1 h2 h3 h4 h5=>by
      have h5:ZFk (Z9Z (live.map (·.2)) I ((live.map (·.1)).map (Z3g env')) w'):=h5
      obtain ⟨svs,k1,k2,k3⟩:=Z7C _ _ ⟨_,I,w',Z7t h5⟩
      have hl:svs.length=(live.map (·.1)).length:=by
       have:=congrArg List.length k2
       rw [Z02,Z02] at this
       rw [this]; exact hlen env'
      have hb:=Z8x _ _ _ hrest k1 (fun t=>a'.tmps.getD t undef) w' (by rw [k3]; exact h5)
      have h4':Keep W a a':=h4.mono fun t ht=>hW t (.inl ht)
      exact ihy W _ a' w' K Q (ZCI hrep h1 hl k2 h4) h2 hs.2 (fun t ht=>hW t (.inr ht)) hQ (fun ch a2 w2 hd hk=>hR ch a2 w2 (hd.trans h3) (h4'.trans hk)) hb {
       nrm:=fun env'' a'' w'' g1 g2 g3 g4 g5=>hp.nrm _ _ _ g1 g2 (g3.trans h3) (h4'.trans g4) g5
       exit:=fun i env'' a'' w'' g1 g2 g3 g4 g5=>hp.exit _ _ _ _ g1 g2 (g3.trans h3) (h4'.trans g4) g5
       ret:=fun env'' a'' w'' g1 g2 g3 g4 g5=>hp.ret _ _ _ g1 g2 (g3.trans h3) (h4'.trans g4) g5 }
     exit:=fun i env' a' w' h1 h2 h3 h4 h5=>hp.exit i _ _ _ h1 h2 h3 (h4.mono fun t ht=>hW t (.inl ht)) h5
     ret:=fun env' a' w' h1 h2 h3 h4 h5=>hp.ret _ _ _ h1 h2 h3 (h4.mono fun t ht=>hW t (.inl ht)) h5 }
 | cond c x y ihx ihy =>
   intro W env a w K Q hrep hn hs hW hQ hR h hp
   simp only [Z1Y,Bool.and_eq_true] at hs
   simp only [Zr,List.mem_append] at hW
   unfold Z8A at h
   have hev:a.eval c=toV (ev (pA P R) env c):=hrep.eval c
   split at h
   ·rename_i t hc
    have hc':a.eval c=.bool t:=by rw [hev,hc]; rfl
    refine wp_cond hc' ?_
    cases t with
    | true=>exact ihx W env a w K Q hrep hn hs.1 (fun t ht=>hW t (.inl ht)) hQ hR h hp
    | false=>exact ihy W env a w K Q hrep hn hs.2 (fun t ht=>hW t (.inr ht)) hQ hR h hp
   ·rename_i t hc
    obtain ⟨h1,h2⟩:=h
    have hc':a.eval c=.bool (den t):=by rw [hev,hc]; rfl
    have henv:∀b:Bool,den t=b→Rep (setC env c b) a:=by
     intro b hb
     unfold setC
     cases c with
     | tmp s =>
       refine hrep.refine ?_
       have:toV (Z3g env s)=toV (ev (pA P R) env (.tmp s)):=rfl
       rw [this,hc,← hb]; rfl
     | _=>exact hrep
    refine wp_cond hc' ?_
    cases hd:den t with
    | true=>exact ihx W _ a w K Q (henv true hd) hn hs.1 (fun t ht=>hW t (.inl ht)) hQ hR (Z2y _ _ _ h1 hd) hp
    | false=>exact ihy W _ a w K Q (henv false hd) hn hs.2 (fun t ht=>hW t (.inr ht)) hQ hR (Z2y _ _ _ h2 hd) hp
   ·exact h.elim
 | block id c ih =>
   intro W env a w K Q hrep hn hs hW hQ hR h hp
   unfold Z8A at h
   refine wp_block (ih W env a w _ _ hrep hn hs hW (fun ch a a' w=>hQ ch a a' w) (fun ch a' w'=>hR ch a' w') h ?_)
   exact {
    nrm:=hp.nrm
    exit:=fun i env' a' w' h1 h2 h3 h4 h5=>by
     have h5:if i=id then K.nrm env' w' else K.exit i env' w':=h5
     simp only [Exit.inBlock]
     split
     ·rename_i hi; rw [if_pos hi] at h5; exact hp.nrm _ _ _ h1 h2 h3 h4 h5
     ·rename_i hi; rw [if_neg hi] at h5; exact hp.exit i _ _ _ h1 h2 h3 h4 h5
    ret:=hp.ret }
 | loop c ih =>
   intro W env a w K Q hrep hn hs hW hQ hR h hp
   unfold Z8A at h
   split at h
   ·exact h.elim
   ·rename_i id live hann
    obtain ⟨I,μ,h0,hround⟩:=h
    have hlen:∀e:Env pC,((live.map (·.1)).map (Z3g e)).length=(live.map (·.1)).length:=fun e=>by simp
    let Inv:Nat→Act→World→Prop:=fun m a' w'=>∃svs jk,InT (live.map (·.2)) svs∧Rep (Z7R (pA P R) jk (live.map (·.1)) svs (Zr c) env) a'∧a'.tmps.size=n∧a'.defers=a.defers∧Keep (Zr c) a a' ∧
     ZFk (Z9Z (live.map (·.2)) I svs w')∧theN (Z9Z (live.map (·.2)) μ svs w')=m
    have enter:∀(env':Env pC) (a':Act) (w':World),Rep env' a'→a'.tmps.size=n→a'.defers=a.defers→Keep (Zr c) a a' →
      ZFk (Z9Z (live.map (·.2)) I ((live.map (·.1)).map (Z3g env')) w')→Inv (theN (Z9Z (live.map (·.2)) μ ((live.map (·.1)).map (Z3g env')) w')) a' w':=by
     intro env' a' w' hrep' hn' hdef hkeep hI
     obtain ⟨svs,h1,h2,h3⟩:=Z7C _ _ ⟨_,I,w',Z7t hI⟩
     refine ⟨svs,fun t=>a'.tmps.getD t undef,h1,?_,hn',hdef,hkeep,by rw [h3]; exact hI,by rw [h3]⟩
     have hl:svs.length=(live.map (·.1)).length:=by
      have:=congrArg List.length h2
      rw [Z02,Z02] at this
      rw [this]; exact hlen env'
     exact ZCI hrep hrep' hl h2 hkeep
    refine Z9X Inv (enter env a w hrep hn rfl (Keep.refl _ _) h0) ?_
    rintro m a' w' ⟨svs,jk,h1,h2,h3,h4,h5,h6,rfl⟩
    have hb:=Z8x _ _ _ hround h1 jk w' h6
    refine ih (Zr c) _ a' w' _ _ h2 h3 hs (fun t ht=>ht) (fun ch a1 a2 w hd hk=>hQ ch a1 a2 w hd (fun t ht=>hk t (fun hm=>ht (hW t hm)))) (fun ch a2 w2 hd hk=>hR ch a2 w2 (hd.trans h4) ((h5.mono fun t ht=>hW t ht).trans (hk.mono fun t ht=>hW t ht))) hb ?_
    have hkW:Keep W a a':=h5.mono fun t ht=>hW t ht
    exact {
     nrm:=fun env'' a'' w'' g1 g2 g3 g4 g5=>by
      obtain ⟨g5,g6⟩:=g5
      exact ⟨_,g6,enter env'' a'' w'' g1 g2 (g3.trans h4) (h5.trans g4) g5⟩
     exit:=fun i env'' a'' w'' g1 g2 g3 g4 g5=>hp.exit i _ _ _ g1 g2 (g3.trans h4) (hkW.trans (g4.mono fun t ht=>hW t ht)) g5
     ret:=fun env'' a'' w'' g1 g2 g3 g4 g5=>hp.ret _ _ _ g1 g2 (g3.trans h4) (hkW.trans (g4.mono fun t ht=>hW t ht)) g5 }
 | exit id=>intro W env a w K Q hrep hn hs hW hQ hR h hp; exact wp_exit (hp.exit _ _ _ _ hrep hn rfl (Keep.refl _ _) h)
 | ret=>intro W env a w K Q hrep hn hs hW hQ hR h hp; exact wp_ret (hp.ret _ _ _ hrep hn rfl (Keep.refl _ _) h)
 | rangeFunc=>intro W env a w K Q hrep hn hs hW hQ hR h hp; exact h.elim
 | scope=>intro W env a w K Q hrep hn hs hW hQ hR h hp; exact h.elim
 | label=>intro W env a w K Q hrep hn hs hW hQ hR h hp; exact h.elim
 | goto=>intro W env a w K Q hrep hn hs hW hQ hR h hp; exact h.elim
 | refuse=>intro W env a w K Q hrep hn hs hW hQ hR h hp; exact h.elim

theorem Z9N {r:ResultVar} {env:Env pC} {a:Act} {w:World} {k:SV pC→Prop} (hrep:Rep env a) (h:ZBZ (pA P R) P r env w k) :
  ∃sv,((match r with
   | .tmp t=>pure (a.tmps.getD t undef)
   | .cell d t=>do loadVar t (← asAddr (a.tmps.getD d undef))):Sem Value).run P w=.ok (toV sv) w∧k sv:=by
 cases r with
 | tmp t =>
   refine ⟨_,?_,h⟩
   simp only [Sem.run_pure]
   rw [hrep t]
 | cell d t =>
   unfold ZBZ at h
   simp only at h
   split at h
   ·rename_i dd hd
    obtain ⟨sv,h1,h2,_⟩:=Z5D h
    refine ⟨sv,?_,h2⟩
    simp only [Sem.run_bind]
    rw [hrep d,hd]
    simp [toV,asAddr,h1]
   ·exact h.elim

theorem Z4u {env:Env pC} {a:Act} {w:World} (hrep:Rep env a):∀(rs:List ResultVar) (k:List (SV pC)→Prop),Z6x (pA P R) P rs env w k →
  ∃svs,(rs.mapM fun r=>(match r with
   | .tmp t=>pure (a.tmps.getD t undef)
   | .cell d t=>do loadVar t (← asAddr (a.tmps.getD d undef)):Sem Value)).run P w=.ok (toVs svs) w∧k svs
 | [],k,h=>⟨[],rfl,h⟩
 | r :: rs,k,h=>by
   unfold Z6x at h
   obtain ⟨sv,h1,h⟩:=Z9N hrep h
   obtain ⟨svs,h2,h⟩:=Z4u hrep rs _ h
   refine ⟨sv :: svs,?_,h⟩
   rw [List.mapM_cons]
   simp only [Sem.run_bind,h1,h2,Result.andThen_ok,Sem.run_pure,toVs]

theorem Z4h {fn:Func} {env:Env pC} {a:Act} {w:World} (hrep:Rep env a) (h:ZH5 (pA P R) P fn env w) :
  ∃v,(results fn a.tmps).run P w=.ok v w∧R.fin (.returned v) w:=by
 unfold ZH5 at h
 obtain ⟨svs,h1,h2⟩:=Z4u hrep _ _ h
 have hm:(fn.results.mapM fun r=>(match r with
   | .tmp t=>pure (a.tmps.getD t undef)
   | .cell d t=>do loadVar t (← asAddr (a.tmps.getD d undef)):Sem Value)).run P w=.ok (toVs svs).toArray w:=by
  rw [Array.mapM_eq_mapM_toList]
  simp only [Sem.run_map,h1,Result.andThen_ok]
 have hr:(results fn a.tmps).run P w=.ok (if h:(toVs svs).toArray.size=1 then (toVs svs).toArray[0] else .tuple (toVs svs).toArray) w:=by
  unfold results
  simp only [Sem.run_bind]
  erw [hm]
  rfl
 clear h1 hm
 match svs,h2,hr with
 | [v],h2,hr=>exact ⟨_,hr,h2⟩
 | [],h2,hr=>exact ⟨_,hr,h2⟩
 | v :: v2 :: vs,h2,hr =>
   refine ⟨_,hr,?_⟩
   have:¬(toVs (v :: v2 :: vs)).toArray.size=1:=by simp [toVs]
   rw [dif_neg this]
   exact h2

theorem Z4O:∀(l:List (SV pC)) (i t:Nat),toV (Z3g (Z1l i l) t)=if i≤t then (toVs l).getD (t - i) undef else undef
 | [],i,t=>by simp [Z1l,Z3g,toVs,toV,undef]
 | v :: vs,i,t=>by
   simp only [Z1l,Z3g]
   by_cases hb:Nat.beq i t=true
   ·have:=Nat.eq_of_beq_eq_true hb
    subst this
    simp [hb,toVs]
   ·have hne:i≠t:=fun h=>hb (by rw [h]; exact Nat.beq_refl t)
    have hb:Nat.beq i t=false:=Bool.eq_false_iff.2 hb
    simp only [hb,cond_false]
    rw [Z4O vs (i+1) t]
    by_cases hle:i≤t
    ·rw [if_pos (by omega),if_pos hle]
     rw [show t - i=(t - (i+1))+1 from by omega]
     simp [toVs]
    ·rw [if_neg (by omega),if_neg hle]

theorem Z6V {fn:Func} {args:List (SV pC)}:Rep (Z1l 0 args) ({ tmps:=(toVs args).toArray++Array.replicate (fn.ntmps - (toVs args).toArray.size) undef,defers:=[] }:Act):=by
 intro t
 rw [Z4O]
 simp only [Nat.zero_le,if_true,Nat.sub_zero]
 rw [Array.getD_eq_getD_getElem?]
 by_cases ht:t < (toVs args).length
 ·rw [Array.getElem?_append_left (by simpa using ht)]
  simp
 ·rw [Array.getElem?_append_right (by simpa using ht)]
  simp only [Array.getElem?_replicate,List.getD_eq_getElem?_getD]
  rw [List.getElem?_eq_none (by omega)]
  split <;> rfl

theorem ZC8 {ann:List (Nat×List (Tmp×Shape1))} {fn:Func} {args:List (SV pC)} {w:World} (hm:P.follows .mixedOrders=true)
  (h:ZP (pA P R) P ann fn args w):∃c,fn.body=some c∧c.wp P (bodyPost P fn R.fin) { tmps:=(toVs args).toArray++Array.replicate (fn.ntmps - (toVs args).toArray.size) undef,defers:=[] } w:=by
 unfold ZP at h
 split at h
 ·exact h.elim
 ·rename_i c hb
  split at h
  ·rename_i hc
   refine ⟨c,hb,?_⟩
   refine Z67 hm c (Zr c) _ _ w _ _ Z6V ?_ hc.2 (fun t ht=>ht) ?_ (fun ch a' w' hd _ hf=>⟨hd,hf⟩) h ?_
   ·simp [Z02]; omega
   ·intro ch a a' w hd _ hq
    exact ⟨hd ▸ hq.1,hq.2⟩
   ·exact {
     nrm:=fun env' a' w' h1 h2 h3 h4 h5=>⟨h3,Z4h h1 h5⟩
     exit:=fun i env' a' w' h1 h2 h3 h4 h5=>h5.elim
     ret:=fun env' a' w' h1 h2 h3 _ h5=>⟨h3,Z4h h1 h5⟩ }
  ·exact h.elim
theorem Z8 {ann:List (Nat×List (Tmp×Shape1))} {f:FuncId} {fn:Func} {args:List (SV pC)} {w:World} (hf:P.funcs[f]?=some fn) (hm:P.follows .mixedOrders=true)
  (h:ZP (pA P R) P ann fn args w):Calls P f (toVs args).toArray w R.fin:=by
 obtain ⟨c,hb,hw⟩:=ZC8 hm h
 exact calls_of_wp hf hb hw
theorem xs {P:Program} {R:Ending→World→Prop} {V:Prop} {f:FuncId} {fn:Func} {w:World} (ann:List (Nat×List (Tmp×Shape1))) (args:List (SV pC)) (hf:P.funcs[f]?=some fn) (hm:P.follows .mixedOrders=true)
 (e:V=ZP (pA P ⟨R,false⟩) P ann fn args w) (h:V):Calls P f (toVs args).toArray w R:=Z8 (R:=⟨R,false⟩) hf hm (Eq.mp e h)
end Go.Vcg
end
