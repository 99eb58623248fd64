import Derived.Test.YtkjlebnmeimfnaaAbsCode
namespace Go.Abs

def ownE (own : Nat → Own) (frz out : List Nat) : Nat → Own := fun b => match own b with
  | .outer => .outer
  | _ => match own0 own frz out b with
    | .outer => .free
    | x => x

theorem ownE_at {own : Nat → Own} {frz out : List Nat} {b s : Nat} : ownE own frz out b = .at s ↔ own0 own frz out b = .at s := by
  unfold ownE
  constructor
  · intro h
    split at h
    · cases h
    · split at h
      · cases h
      · exact h
  · intro h
    split
    · rename_i ho
      simp [own0, ho] at h
    · rw [h]

theorem ownE_free {own : Nat → Own} {frz out : List Nat} {b : Nat} (h : own0 own frz out b = .free) : ownE own frz out b = .free := by
  unfold ownE
  split
  · rename_i ho
    simp [own0, ho] at h
  · rw [h]

section
variable {P : Program} {w : World} {own : Nat → Own} {frz out : List Nat}

theorem transE (ob : Obs) : Trans w (own0 own frz out) ob w (ownE own frz out) ob where
  free a v h1 h2 := ⟨ownE_free h1, h2⟩
  site s := ⟨Nat.le_refl _, fun c' h => ⟨c', h, rfl, rfl, fun b hb => ⟨ownE_at.2 hb, rfl⟩⟩⟩

theorem HR.toE {ob : Obs} (H : HR w (own0 own frz out) ob) : HR w (ownE own frz out) ob := by
  refine ⟨fun s v c h => ?_, fun b hb => ownE_free (H.fresh b hb)⟩
  rcases H.blk s v c h with hemp | ⟨b, cells, B⟩
  · exact .inl ⟨hemp.1, fun b hb => hemp.2 b (ownE_at.1 hb)⟩
  right
  exact ⟨b, cells, ownE_at.2 B.owned, fun b' hb' => B.only b' (ownE_at.1 hb'), B.heap, B.len, B.room, fun i e j x h1 h2 => by
    obtain ⟨u, hu, hr⟩ := B.rep i e j x h1 h2
    exact ⟨u, hu, RepC.trans (transE ob) hr⟩⟩

/-! the results -/
theorem resT_sound {st : St} {tmps : Array Value} (S : Sim st w own tmps) {r : ResultVar} {t : T} (h : resT P st r = some t) (f : ResultVar → Sem Value) (hf : ∀ u, f (.tmp u) = pure (tmps.getD u undef)) (hc : ∀ a t, f (.cell a t) = (do loadVar t (← asAddr (tmps.getD a undef)))) :
    ∃ v, (f r).run P w = .ok v w ∧ RepT (RepV w own st.ob) t v := by
  cases r with
  | tmp u =>
    simp only [resT, Option.some.injEq] at h
    subst h
    exact ⟨_, by rw [hf]; simp, S.2.2 u⟩
  | cell a ty =>
    simp only [resT] at h
    split at h
    · rename_i s v i off hrd
      split at h
      · rename_i c hl
        split at h
        · rename_i cs hcs
          have hr := S.2.2 a
          rw [hrd] at hr
          have hlk : lk st.ob s = ⟨v, some c⟩ := live_lk (ob := fun s => some (lk st.ob s)) (fun s o' h => by injection h) hl
          obtain ⟨A, hA, hcell⟩ := ptr_cells S.1 hlk hr hcs
          obtain ⟨u, hu, hru⟩ := loadVar_run h A hcell
          refine ⟨u, ?_, hru⟩
          rw [hc, hA]
          simp [asAddr, hu]
        · cases h
      · cases h
    · cases h

theorem resTs_sound {st : St} {tmps : Array Value} (S : Sim st w own tmps) (f : ResultVar → Sem Value) (hf : ∀ u, f (.tmp u) = pure (tmps.getD u undef)) (hc : ∀ a t, f (.cell a t) = (do loadVar t (← asAddr (tmps.getD a undef)))) :
    ∀ {rs : List ResultVar} {ts : List T}, resTs P st rs = some ts → ∃ vs, (rs.mapM f).run P w = .ok vs w ∧ RepTT (RepV w own st.ob) ts vs
  | [], ts, h => by simp [resTs] at h; subst h; exact ⟨[], by simp, .nil⟩
  | r :: rs, ts, h => by
    simp only [resTs] at h
    split at h
    · rename_i t ts' ht hts
      injection h with h; subst h
      obtain ⟨v, h1, h2⟩ := resT_sound S ht f hf hc
      obtain ⟨vs, h3, h4⟩ := resTs_sound S f hf hc hts
      exact ⟨v :: vs, by simp [List.mapM_cons, h1, h3], .cons h2 h4⟩
    · cases h

def resF (tmps : Array Value) : ResultVar → Sem Value
  | .tmp t => pure (tmps.getD t undef)
  | .cell a t => do loadVar t (← asAddr (tmps.getD a undef))

theorem results_eq (fn : Func) (tmps : Array Value) : results fn tmps = (do
    let vs ← fn.results.mapM (resF tmps)
    pure (if h : vs.size = 1 then vs[0] else .tuple vs)) := by
  unfold results
  congr 1

theorem results_by (fn : Func) (tmps : Array Value) : ∃ f : ResultVar → Sem Value, (∀ u, f (.tmp u) = pure (tmps.getD u undef)) ∧ (∀ a t, f (.cell a t) = (do loadVar t (← asAddr (tmps.getD a undef)))) ∧
    ∀ vs, (fn.results.toList.mapM f).run P w = .ok vs w → (results fn tmps).run P w = .ok (if h : vs.toArray.size = 1 then vs.toArray[0] else .tuple vs.toArray) w := by
  refine ⟨resF tmps, fun _ => rfl, fun _ _ => rfl, fun vs h => ?_⟩
  rw [results_eq, ← Array.toArray_toList (xs := fn.results), List.mapM_toArray]
  simp only [Sem.run_bind, Sem.run_map]
  rw [h]
  simp

theorem RepTT.len {R : V → Value → Prop} {ts : List T} {vs : List Value} (h : RepTT R ts vs) : vs.length = ts.length := by
  induction h with
  | nil => rfl
  | cons _ _ ih => simp [ih]

theorem mapT_one {f : V → Option V} {t t' : T} (h : mapT f t = some t') {R : V → Value → Prop} {u : Value} (hr : RepT R t' u) : RepT1 R t' u := by
  cases t with
  | one x => obtain ⟨y, hy, rfl⟩ := Option.map_eq_some_iff.1 h; exact hr
  | agg cs => obtain ⟨ys, hy, rfl⟩ := Option.map_eq_some_iff.1 h; exact hr
  | tup ts => simp [mapT] at h

theorem mapTs_ones {f : V → Option V} {R : V → Value → Prop} : ∀ {ts ts' : List T} {us : List Value}, mapTs f ts = some ts' → RepTT R ts' us → RepTs R ts' us
  | [], ts', us, hm, h => by simp [mapTs] at hm; subst hm; cases h; exact .nil
  | t :: ts, ts', us, hm, h => by
    simp only [mapTs] at hm
    split at hm
    · rename_i t' l ht hl
      injection hm with hm; subst hm
      cases h with
      | cons h1 h2 => exact .cons (mapT_one ht h1) (mapTs_ones hl h2)
    · cases hm

/-! the objects that go out -/
theorem ifOut_spec : ∀ {oin : List Ob} {k : Nat} {out : List Nat}, ifOut oin k out = true → ∀ (i s : Nat), out[i]? = some s → (i < oin.length ∧ s = k + i) ∨ (oin.length ≤ i ∧ s < 1000)
  | [], k, [], _, i, s, h => by simp at h
  | [], k, t :: r, h, i, s, hi => by
    unfold ifOut at h
    split at h
    · rename_i hb
      have hb : t < 1000 := by simpa [Nat.blt, Nat.lt_iff_add_one_le] using hb
      cases i with
      | zero => simp at hi; subst hi; exact .inr ⟨by simp, hb⟩
      | succ i =>
        rcases ifOut_spec h i s (by simpa using hi) with ⟨h1, _⟩ | ⟨h1, h2⟩
        · simp at h1
        · exact .inr ⟨by simp, h2⟩
    · cases h
  | o :: oin, k, [], h, i, s, hi => by simp at hi
  | o :: oin, k, t :: r, h, i, s, hi => by
    unfold ifOut at h
    split at h
    · rename_i hb
      have hb : t = k := by simpa using hb
      cases i with
      | zero => simp at hi; subst hi; exact .inl ⟨by simp, by omega⟩
      | succ i =>
        rcases ifOut_spec h i s (by simpa using hi) with ⟨h1, h2⟩ | ⟨h1, h2⟩
        · exact .inl ⟨by simpa using h1, by omega⟩
        · exact .inr ⟨by simpa using h1, h2⟩
    · cases h
theorem ifOut_len : ∀ {oin : List Ob} {k : Nat} {out : List Nat}, ifOut oin k out = true → oin.length ≤ out.length
  | [], k, out, _ => by simp
  | o :: oin, k, [], h => by simp [ifOut] at h
  | o :: oin, k, t :: r, h => by
    unfold ifOut at h
    split at h
    · have := ifOut_len h; simp; omega
    · cases h

theorem end_trans {w0 : World} {own0' : Nat → Own} {oin oo : List Ob} {st : St} (W : WayI w0 own0' (enumFrom 1000 oin) w own st.ob) {f : V → Option V} (hoo : passObs (fun s => some (lk st.ob s)) f out = some oo)
    (hio : ifOut oin 1000 out = true) (hd : distinct (frz ++ out) = true) : Trans w0 own0' (enumFrom 1000 oin) w (ownE own frz out) (enumFrom 1000 oo) := by
  obtain ⟨hdF, hdO, hdFO⟩ := distinct_app (l := frz) (r := out) hd
  obtain ⟨ol, os⟩ := passObs_spec (obl := st.ob) (ob := fun s => some (lk st.ob s)) (fun s o' h => by injection h) hoo
  refine ⟨fun a v h1 h2 => ?_, fun s => ?_⟩
  · obtain ⟨g1, g2⟩ := W.free a v h1 h2
    exact ⟨ownE_free (own0_free g1), g2⟩
  · rcases Nat.lt_or_ge s 1000 with hlt | hge
    · rw [lk_enum_lt _ _ _ hlt, lk_enum_lt _ _ _ hlt]
      exact ⟨Nat.le_refl _, fun c' h => by cases h⟩
    · obtain ⟨k, rfl⟩ : ∃ k, s = 1000 + k := ⟨s - 1000, by omega⟩
      rw [lk_enum oin, lk_enum oo]
      cases hs : out[k]? with
      | none =>
        have hkl : out.length ≤ k := by
          rcases Nat.lt_or_ge k out.length with h | h
          · rw [List.getElem?_eq_getElem h] at hs; cases hs
          · exact h
        have := ifOut_len hio
        rw [List.getD_eq_getElem?_getD, List.getD_eq_getElem?_getD, List.getElem?_eq_none (by omega), List.getElem?_eq_none (by omega)]
        exact ⟨Nat.le_refl _, fun c' h => by cases h⟩
      | some t =>
        obtain ⟨o', h1, h2⟩ := os k t hs
        obtain ⟨So, _, _⟩ := mapOb_spec h2
        rw [List.getD_eq_getElem?_getD, List.getD_eq_getElem?_getD, h1, Option.getD_some]
        rcases ifOut_spec hio k t hs with ⟨hk, rfl⟩ | ⟨hk, ht⟩
        · obtain ⟨x1, x2⟩ := W.site (1000 + k) (by omega)
          rw [lk_enum oin, List.getD_eq_getElem?_getD] at x1 x2
          have hver : o'.ver = (lk st.ob (1000 + k)).ver := by
            rw [So.ver]
            unfold nv
            have : Nat.ble 1000 (1000 + k) = true := by simp
            rw [this]
          refine ⟨by rw [hver]; exact x1, fun c' hc' => ?_⟩
          obtain ⟨c0, g1, g2, g3, g4, g5⟩ := So.con c' (by rw [hc'])
          obtain ⟨c, e1, e2, e3, e4⟩ := x2 c0 (by
            rw [← g1]
            have : (oin[k]?.getD ⟨0, none⟩).ver = (lk st.ob (1000 + k)).ver := by rw [← hver, hc']
            rw [this])
          refine ⟨c, e1, g3.trans e2, g5.trans e3, fun b hb => ?_⟩
          obtain ⟨f1, f2⟩ := e4 b hb
          refine ⟨ownE_at.2 (own0_at f1 (fun h => hdFO _ h (List.mem_of_getElem? hs)) ?_), f2⟩
          cases hq : idxOf out (1000 + k) 1000 with
          | none => exact absurd (List.mem_of_getElem? hs) (idxOf_none hq)
          | some k' =>
            obtain ⟨i, rfl, hi⟩ := idxOf_some hq
            rw [distinct_inj hdO i k _ hi hs]
        · rw [List.getElem?_eq_none hk]
          refine ⟨Nat.zero_le _, fun c' hc' => ?_⟩
          have := So.ver
          rw [hc'] at this
          unfold nv at this
          have hb : Nat.ble 1000 t = false := by
            rw [← Bool.not_eq_true]
            intro h
            have h : 1000 ≤ t := Nat.le_of_ble_eq_true h
            omega
          rw [hb] at this
          cases this

theorem end_keep {w0 : World} {own0' : Nat → Own} (K : Keep w0 own0' w own) : Keep w0 own0' w (ownE own frz out) where
  os := K.os
  tape := K.tape
  output := K.output
  size := K.size
  old := K.old
  free b hb hf := ownE_free (own0_free (K.free b hb hf))
  outer b := by
    rw [K.outer b]
    unfold ownE
    constructor
    · intro h; rw [h]
    · intro h
      split at h
      · rename_i h'; exact h'
      · split at h
        · cases h
        · rename_i hne; exact absurd h hne

/-- behind a body that does so much -/
theorem fn_exec (hm : P.follows .mixedOrders = true) {f : Nat} {args : List T} {oin : List Ob} {fn : Func} {c : Code} {e : AExit} {st : St} {frz out : List Nat} {t : T} {oo : List Ob} (hfn : P.funcs[f]? = some fn) (hb : fn.body = some c)
    (hrun : ExecOK P c (startSt fn args oin) e st) (hg : (isEnd e && ifOut oin 1000 out) = true) (he : runEnd P fn st frz out = some (t, oo)) : CallOK P f args oin t oo := by
  simp only [Bool.and_eq_true] at hg
  obtain ⟨hend, hio⟩ := hg
  intro w own vals H hvals
  have hlen : vals.length = args.length := hvals.len
  refine calls_of_wp hfn hb ?_
  have S0 : Sim (startSt fn args oin) w own (vals.toArray ++ Array.replicate (fn.ntmps - vals.toArray.size) undef) := by
    refine ⟨H, by simp [startSt, hlen], fun t => ?_⟩
    have hgen : ∀ {xs : List T} {us : List Value} (n t : Nat), RepTT (RepV w own (enumFrom 1000 oin)) xs us → RepT (RepV w own (enumFrom 1000 oin)) ((xs ++ List.replicate n T.undef).getD t .undef) ((us ++ List.replicate n undef).getD t undef) := by
      intro xs us n t h
      induction h generalizing t with
      | nil =>
        have : ([] ++ List.replicate n T.undef).getD t .undef = T.undef := by
          simp only [List.nil_append, List.getD_eq_getElem?_getD, List.getElem?_replicate]
          split <;> rfl
        rw [this]; trivial
      | cons h1 _ ih =>
        cases t with
        | zero => simpa using h1
        | succ t => simpa using ih t
    have := hgen (fn.ntmps - args.length) t hvals
    simp only [startSt, St.rd]
    have e : (vals.toArray ++ Array.replicate (fn.ntmps - vals.toArray.size) undef).getD t undef = (vals ++ List.replicate (fn.ntmps - args.length) undef).getD t undef := by
      rw [← hlen]
      simp only [Array.getD_eq_getD_getElem?, List.getD_eq_getElem?_getD]
      congr 1
      rw [← Array.getElem?_toList]
      simp
    rw [e]
    exact this
  refine hrun w own _ S0 rfl _ ?_
  intro a' w' own' S' hd' W
  have fin : a'.defers = [] ∧ ∃ v, (results fn a'.tmps).run P w' = .ok v w' ∧ ∃ v2 own2, Ending.returned v = .returned v2 ∧ Trans w own (enumFrom 1000 oin) w' own2 (enumFrom 1000 oo) ∧ HR w' own2 (enumFrom 1000 oo) ∧ Keep w own w' own2 ∧ RepT (RepV w' own2 (enumFrom 1000 oo)) t v2 := by
    refine ⟨hd', ?_⟩
    unfold runEnd at he
    dsimp only at he
    split at he
    · rename_i ts oo' h1 h2 h3
      obtain ⟨hdF, hdO, hdFO⟩ := distinct_app (l := frz) (r := out) h3
      obtain ⟨fR, hf1, hf2, hf3⟩ := results_by (P := P) (w := w') fn a'.tmps
      obtain ⟨vs, hvs, hrep⟩ := resTs_sound S' fR hf1 hf2 h1
      have hH := HR0 (snap := frz) (pass := out) S'.1 (ob := fun s => some (lk st.ob s)) (fun s o' h => by injection h) h2 hdFO hdO
      have key : ∀ {ts' : List T}, mapTs (argV (fun s => some (lk st.ob s)) frz out) ts = some ts' → RepTT (RepV w' (ownE own' frz out) (enumFrom 1000 oo')) ts' vs := by
        intro ts' hm'
        exact mapTs_rep (R := RepV w' own' st.ob) (R' := RepV w' (ownE own' frz out) (enumFrom 1000 oo')) (fun x y u hx hy => RepV.trans (transE _) (argV_rep S'.1 (fun s o' h => by injection h) h2 hdFO (fun s hs => hs) hx hy)) hrep hm'
      have hres := hf3 vs hvs
      split at he
      · rename_i t1 hm1
        injection he with he
        injection he with e1 e2
        subst e1 e2
        have hr := key hm1
        have : ∃ v, vs = [v] ∧ RepT (RepV w' (ownE own' frz out) (enumFrom 1000 oo')) t1 v := by
          cases hr with
          | cons h1 h2 => cases h2; exact ⟨_, rfl, h1⟩
        obtain ⟨v, rfl, hv⟩ := this
        exact ⟨v, by rw [hres]; simp, v, ownE own' frz out, rfl, end_trans W h2 hio h3, hH.toE, end_keep W.keep, hv⟩
      · rename_i ts' hne hm1
        injection he with he
        injection he with e1 e2
        subst e1 e2
        have hr := key hm1
        refine ⟨.tuple vs.toArray, ?_, _, ownE own' frz out, rfl, end_trans W h2 hio h3, hH.toE, end_keep W.keep, vs, rfl, mapTs_ones hm1 hr⟩
        rw [hres]
        have : vs.length ≠ 1 := by
          intro h1
          rw [hr.len] at h1
          obtain ⟨x, hx⟩ := List.length_eq_one_iff.1 h1
          exact hne x hx
        simp [this]
      · cases he
    · cases he
  cases e with
  | normal => exact fin
  | ret => exact fin
  | exit i => cases hend

/-- The function does what its run says. -/
theorem fn_sound (hm : P.follows .mixedOrders = true) {f : Nat} {args : List T} {oin : List Ob} {sc : List Item} {frz out : List Nat} {p : List Prop} {r : T} {oout : List Ob}
    (h : runFn (CallOK P) (ExecOK P) P f args oin sc frz out = some (p, r, oout)) (hp : ∀ q ∈ p, q) : CallOK P f args oin r oout := by
  unfold runFn at h
  split at h
  · cases h
  · rename_i fn hfn
    split at h
    · cases h
    · rename_i c hb
      split at h
      · rename_i p1 e st hrun
        split at h
        · rename_i t oo hg he
          simp only [Option.some.injEq, Prod.mk.injEq] at h
          obtain ⟨rfl, rfl, rfl⟩ := h
          exact fn_exec hm hfn hb (runC_sound hm _ _ _ _ _ _ _ hrun hp) hg he
        · cases h
      · cases h

end
end Go.Abs
