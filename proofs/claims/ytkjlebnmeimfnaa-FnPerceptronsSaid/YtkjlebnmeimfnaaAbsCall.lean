import Derived.Test.YtkjlebnmeimfnaaAbsEff
namespace Go.Abs

/-! lists of sites -/
theorem hasN_iff {l : List Nat} {s : Nat} : hasN l s = true ↔ s ∈ l := by
  induction l with
  | nil => simp [hasN]
  | cons t r ih =>
    simp only [hasN]
    cases h : Nat.beq t s with
    | true => have : t = s := by simpa using h
              subst this; simp
    | false => have : t ≠ s := by intro e; subst e; simp at h
               simp only [List.mem_cons, ih]
               exact ⟨.inr, fun h => h.resolve_left (fun e => this e.symm)⟩
theorem hasN_false {l : List Nat} {s : Nat} : hasN l s = false ↔ s ∉ l := by
  rw [← Bool.not_eq_true, hasN_iff]

theorem idxOf_some {l : List Nat} {s k n : Nat} (h : idxOf l s k = some n) : ∃ i, n = k + i ∧ l[i]? = some s := by
  induction l generalizing k with
  | nil => simp [idxOf] at h
  | cons t r ih =>
    simp only [idxOf] at h
    split at h
    · rename_i hb
      have : t = s := by simpa using hb
      injection h with h
      exact ⟨0, by omega, by simp [this]⟩
    · obtain ⟨i, h1, h2⟩ := ih h
      exact ⟨i + 1, by omega, by simpa using h2⟩
theorem idxOf_none {l : List Nat} {s k : Nat} (h : idxOf l s k = none) : s ∉ l := by
  induction l generalizing k with
  | nil => simp
  | cons t r ih =>
    simp only [idxOf] at h
    split at h
    · cases h
    · rename_i hb
      have : t ≠ s := by intro e; subst e; simp at hb
      simp only [List.mem_cons, not_or]
      exact ⟨fun e => this e.symm, ih h⟩

theorem distinct_inj : ∀ {l : List Nat}, distinct l = true → ∀ (i j s : Nat), l[i]? = some s → l[j]? = some s → i = j
  | [], _, i, j, s, h, _ => by simp at h
  | t :: r, hd, i, j, s, hi, hj => by
    simp only [distinct, Bool.and_eq_true, Bool.not_eq_true'] at hd
    have ht := hasN_false.1 hd.1
    cases i with
    | zero =>
      cases j with
      | zero => rfl
      | succ j =>
        simp at hi hj
        subst hi
        exact absurd (List.mem_of_getElem? hj) ht
    | succ i =>
      cases j with
      | zero =>
        simp at hi hj
        subst hj
        exact absurd (List.mem_of_getElem? hi) ht
      | succ j =>
        simp at hi hj
        rw [distinct_inj hd.2 i j s hi hj]
theorem distinct_app {l r : List Nat} (h : distinct (l ++ r) = true) : distinct l = true ∧ distinct r = true ∧ ∀ s ∈ l, s ∉ r := by
  induction l with
  | nil => exact ⟨rfl, h, by simp⟩
  | cons t l ih =>
    simp only [List.cons_append, distinct, Bool.and_eq_true, Bool.not_eq_true'] at h
    have ht := hasN_false.1 h.1
    simp only [List.mem_append, not_or] at ht
    obtain ⟨h1, h2, h3⟩ := ih h.2
    refine ⟨by simp only [distinct, Bool.and_eq_true, Bool.not_eq_true']; exact ⟨hasN_false.2 ht.1, h1⟩, h2, fun s hs => ?_⟩
    rcases List.mem_cons.1 hs with rfl | hs
    · exact ht.2
    · exact h3 s hs

/-! many updates -/
theorem lk_ups (l : List (Nat × Ob)) : ∀ (obl : Obs) (s : Nat), lk (ups obl l) s = (fnd l s).getD (lk obl s) := by
  induction l with
  | nil => intro obl s; rfl
  | cons p r ih =>
    obtain ⟨t, x⟩ := p
    intro obl s
    simp only [ups, ih, fnd]
    cases fnd r s with
    | some y => rfl
    | none =>
      simp only [Option.getD_none, lk_up]
      by_cases h : t = s
      · subst h; simp
      · rw [if_neg h, if_neg (fun e => h e.symm)]; rfl
theorem fnd_some {l : List (Nat × Ob)} {s : Nat} {x : Ob} (h : fnd l s = some x) : (s, x) ∈ l := by
  induction l with
  | nil => simp [fnd] at h
  | cons p r ih =>
    obtain ⟨t, y⟩ := p
    simp only [fnd] at h
    split at h
    · rename_i z hz
      injection h with h; subst h
      exact List.mem_cons_of_mem _ (ih hz)
    · split at h
      · rename_i ht
        injection h with h; subst h ht
        simp
      · cases h
theorem fnd_none {l : List (Nat × Ob)} {s : Nat} (h : fnd l s = none) : ∀ x, (s, x) ∉ l := by
  induction l with
  | nil => simp
  | cons p r ih =>
    obtain ⟨t, y⟩ := p
    intro x hx
    simp only [fnd] at h
    split at h
    · cases h
    · rename_i hr
      split at h
      · cases h
      · rename_i ht
        rcases List.mem_cons.1 hx with hx | hx
        · injection hx with h1 h2; exact ht h1.symm
        · exact ih hr x hx

theorem lk_enum : ∀ (l : List Ob) (k i : Nat), lk (enumFrom k l) (k + i) = l.getD i ⟨0, none⟩
  | [], k, i => rfl
  | o :: r, k, i => by
    simp only [enumFrom, lk]
    cases i with
    | zero => simp
    | succ i =>
      have : Nat.beq k (k + (i + 1)) = false := by rw [← Bool.not_eq_true]; simp [Nat.beq_eq]
      rw [this, show k + (i + 1) = k + 1 + i by omega]
      exact lk_enum r (k + 1) i
theorem lk_enum_lt : ∀ (l : List Ob) (k s : Nat), s < k → lk (enumFrom k l) s = ⟨0, none⟩
  | [], k, s, _ => rfl
  | o :: r, k, s, h => by
    simp only [enumFrom, lk]
    have : Nat.beq k s = false := by rw [← Bool.not_eq_true]; simp [Nat.beq_eq]; omega
    rw [this]
    exact lk_enum_lt r (k + 1) s (by omega)

/-! the contract of a call -/
def CallOK (P : Program) (f : Nat) (args : List T) (oin : List Ob) (r : T) (oout : List Ob) : Prop :=
  ∀ (w : World) (own : Nat → Own) (vals : List Value), HR w own (enumFrom 1000 oin) → RepTT (RepV w own (enumFrom 1000 oin)) args vals →
    Calls P f vals.toArray w fun e w' => ∃ v own', e = .returned v ∧ Trans w own (enumFrom 1000 oin) w' own' (enumFrom 1000 oout) ∧ HR w' own' (enumFrom 1000 oout) ∧ Keep w own w' own' ∧
      RepT (RepV w' own' (enumFrom 1000 oout)) r v

/-! into the callee -/
def own0 (own : Nat → Own) (snap pass : List Nat) : Nat → Own := fun b => match own b with
  | .at s => match hasN snap s with
    | true => .free
    | false => match idxOf pass s 1000 with
      | some k => .at k
      | none => .outer
  | .free => .free
  | .outer => .outer

section
variable {P : Program} {w : World} {own : Nat → Own} {obl : Obs} {ob : Nat → Option Ob} {snap pass : List Nat}

theorem own0_free {b : Nat} (h : own b = .free) : own0 own snap pass b = .free := by simp [own0, h]

theorem toI0 {x u} (h : RepI w (frOf own) x u) : RepI w (frOf (own0 own snap pass)) x u :=
  h.mono fun a v h1 h2 => ⟨own0_free h1, h2⟩

theorem own0_at {b s k : Nat} (h : own b = .at s) (hs : s ∉ snap) (hk : idxOf pass s 1000 = some k) : own0 own snap pass b = .at k := by
  simp [own0, h, hasN_false.2 hs, hk]

theorem own0_snap {b s : Nat} (h : own b = .at s) (hs : s ∈ snap) : own0 own snap pass b = .free := by
  simp [own0, h, hasN_iff.2 hs]

theorem own0_at_inv {b k : Nat} (h : own0 own snap pass b = .at k) : ∃ s, own b = .at s ∧ s ∉ snap ∧ idxOf pass s 1000 = some k := by
  unfold own0 at h
  split at h
  · rename_i s hs
    split at h
    · cases h
    · rename_i hn
      split at h
      · rename_i k' hk
        injection h with h; subst h
        exact ⟨s, hs, hasN_false.1 hn, hk⟩
      · cases h
  · cases h
  · cases h

theorem nv_le {s a b : Nat} (h : a ≤ b) : nv s a ≤ nv s b := by
  unfold nv
  cases Nat.ble 1000 s with
  | true => exact h
  | false => exact Nat.le_refl _
theorem bv_nv (s x o : Nat) (h : nv s x ≤ o) : x ≤ bv s x o ∧ (bv s x o = x → o = nv s x) := by
  unfold nv at *
  unfold bv
  cases hb : Nat.ble 1000 s with
  | true => rw [hb] at h; exact ⟨h, id⟩
  | false =>
    rw [hb] at h
    simp only at h ⊢
    exact ⟨by omega, fun h' => by omega⟩

/-- what the interface bears of an object -/
structure SameOb (s : Nat) (o o' : Ob) : Prop where
  ver : o'.ver = nv s o.ver
  con : ∀ c', o'.con = some c' → ∃ c, o.con = some c ∧ c'.ty = c.ty ∧ c'.sz = c.sz ∧ c'.flat = c.flat ∧ c'.es.length = c.es.length

theorem mapV_len {f : V → Option V} : ∀ {l l' : List V}, mapV f l = some l' → l'.length = l.length ∧ ∀ (j : Nat) y, l'[j]? = some y → ∃ x, l[j]? = some x ∧ f x = some y
  | [], l', h => by simp [mapV] at h; subst h; simp
  | x :: l, l', h => by
    simp only [mapV] at h
    split at h
    · rename_i y r hx hr
      injection h with h; subst h
      obtain ⟨h1, h2⟩ := mapV_len hr
      refine ⟨by simp [h1], fun j z hz => ?_⟩
      cases j with
      | zero => simp at hz; subst hz; exact ⟨x, rfl, hx⟩
      | succ j => simpa using h2 j z (by simpa using hz)
    · cases h
theorem mapVs_len {f : V → Option V} : ∀ {l l' : List (List V)}, mapVs f l = some l' → l'.length = l.length ∧ ∀ (j : Nat) y, l'[j]? = some y → ∃ x, l[j]? = some x ∧ mapV f x = some y
  | [], l', h => by simp [mapVs] at h; subst h; simp
  | x :: l, l', h => by
    simp only [mapVs] at h
    split at h
    · rename_i y r hx hr
      injection h with h; subst h
      obtain ⟨h1, h2⟩ := mapVs_len hr
      refine ⟨by simp [h1], fun j z hz => ?_⟩
      cases j with
      | zero => simp at hz; subst hz; exact ⟨x, rfl, hx⟩
      | succ j => simpa using h2 j z (by simpa using hz)
    · cases h

/-- the objects of a map: cells that are mapped, cells that are kept -/
theorem mapOb_spec {f : V → Option V} {s : Nat} {o o' : Ob} (h : mapOb f s o = some o') : SameOb s o o' ∧ (o.con = none → o'.con = none) ∧
    ∀ c c', o.con = some c → o'.con = some c' → (∀ (i : Nat) (e' : List V), c'.es[i]? = some e' → ∃ e : List V, c.es[i]? = some e ∧ e'.length = e.length ∧ ∀ (j : Nat) y, e'[j]? = some y → ∃ x, e[j]? = some x ∧ (if c.flat then y = x else f x = some y)) := by
  unfold mapOb at h
  split at h
  · rename_i c hc
    obtain ⟨c', hc', h⟩ := Option.map_eq_some_iff.1 h
    subst h
    unfold mapCon at hc'
    split at hc'
    · rename_i hf
      injection hc' with hc'; subst hc'
      refine ⟨⟨rfl, fun c' h => by injection h with h; subst h; exact ⟨c, hc, rfl, rfl, rfl, rfl⟩⟩, (by rw [hc]; simp), fun c1 c2 h1 h2 i e' he' => ?_⟩
      rw [hc] at h1; injection h1 with h1; subst h1
      injection h2 with h2; subst h2
      exact ⟨e', he', rfl, fun j y hy => ⟨y, hy, by rw [hf]; simp⟩⟩
    · rename_i hf
      obtain ⟨es, hes, hc'⟩ := Option.map_eq_some_iff.1 hc'
      subst hc'
      obtain ⟨g1, g2⟩ := mapVs_len hes
      refine ⟨⟨rfl, fun c' h => by injection h with h; subst h; exact ⟨c, hc, rfl, rfl, hf.symm, g1⟩⟩, (by rw [hc]; simp), fun c1 c2 h1 h2 i e' he' => ?_⟩
      rw [hc] at h1; injection h1 with h1; subst h1
      injection h2 with h2; subst h2
      obtain ⟨e, he, hm⟩ := g2 i e' he'
      obtain ⟨k1, k2⟩ := mapV_len hm
      exact ⟨e, he, k1, fun j y hy => by
        obtain ⟨x, hx, hfx⟩ := k2 j y hy
        exact ⟨x, hx, by rw [hf]; simpa using hfx⟩⟩
  · rename_i hc
    injection h with h; subst h
    exact ⟨⟨rfl, fun c' h => by cases h⟩, fun _ => rfl, fun c c' h => by rw [hc] at h; cases h⟩

theorem passObs_spec (hob : ∀ s o', ob s = some o' → lk obl s = o') {f : V → Option V} : ∀ {l : List Nat} {oin : List Ob}, passObs ob f l = some oin →
    oin.length = l.length ∧ ∀ (k s : Nat), l[k]? = some s → ∃ o', oin[k]? = some o' ∧ mapOb f s (lk obl s) = some o'
  | [], oin, h => by simp [passObs] at h; subst h; simp
  | s :: l, oin, h => by
    simp only [passObs] at h
    split at h
    · rename_i o r ho hr
      obtain ⟨o', ho', h⟩ := Option.map_eq_some_iff.1 h
      subst h
      obtain ⟨h1, h2⟩ := passObs_spec hob hr
      refine ⟨by simp [h1], fun k t hk => ?_⟩
      cases k with
      | zero => simp at hk; subst hk; exact ⟨o', rfl, by rw [hob _ _ ho]; exact ho'⟩
      | succ k => simpa using h2 k t (by simpa using hk)
    · cases h

theorem argV_rep (H : HR w own obl) (hob : ∀ s o', ob s = some o' → lk obl s = o') {pf : V → Option V} {oin : List Ob} (hoin : passObs ob pf pass = some oin) (hd : ∀ s ∈ snap, s ∉ pass)
    {snap' : List Nat} (hsub : ∀ s ∈ snap', s ∈ snap) {x y : V} {u : Value} (hx : RepV w own obl x u) (hy : argV ob snap' pass x = some y) : RepV w (own0 own snap pass) (enumFrom 1000 oin) y u := by
  obtain ⟨hl, hpo⟩ := passObs_spec hob hoin
  have hidx : ∀ s k, idxOf pass s 1000 = some k → s ∉ snap ∧ ∃ o', lk (enumFrom 1000 oin) k = o' ∧ mapOb pf s (lk obl s) = some o' := by
    intro s k hk
    obtain ⟨i, rfl, hi⟩ := idxOf_some hk
    obtain ⟨o', h1, h2⟩ := hpo i s hi
    exact ⟨fun h => hd s h (List.mem_of_getElem? hi), o', by rw [lk_enum]; simp [List.getD, h1], h2⟩
  cases x <;> simp only [argV, reduceCtorEq, Option.some.injEq] at hy
  case ref s v =>
    split at hy
    · rename_i c hlive
      have hlk := live_lk hob hlive
      split at hy
      · rename_i hs hf
        injection hy with hy; subst hy
        have hs := hsub s (hasN_iff.1 hs)
        rcases hx.2.2 c hlk with ⟨hes0, rfl⟩ | ⟨b, cap, rfl, hown, hbs, hle, hmx⟩
        · rw [hes0]
          exact RepI.arr (w := w) (fr := frOf (own0 own snap pass)) c.sz [] none 0 (fun _ _ => undef) (by simp) (by simp) (by simp) (by simp) (by simp)
        obtain ⟨b', cells, B⟩ := (H.blk s v c hlk).resolve_left fun h => h.2 b hown
        have hbb : b = b' := B.only b hown
        subst hbb
        refine .arr c.sz c.es _ cap (fun i j => cells.getD (i * c.sz + j) undef) (Nat.le_trans hle hmx) hle B.len (fun i e j x hi hj => ?_) fun _ => ⟨_, rfl, fun i e j x hi hj => ⟨own0_snap hown hs, ?_⟩⟩
        · obtain ⟨q, hq, hr⟩ := B.rep i e j x hi hj
          rw [hf] at hr
          have : cells.getD (i * c.sz + j) undef = q := by simp [hq]
          rw [this]
          exact toI0 hr
        · obtain ⟨q, hq, hr⟩ := B.rep i e j x hi hj
          rw [add_mid]
          simp only [World.cell?, B.heap]
          simp [hq]
      · split at hy
        · rename_i k hk
          injection hy with hy; subst hy
          obtain ⟨hns, o', h1, h2⟩ := hidx s k hk
          obtain ⟨S, _, _⟩ := mapOb_spec h2
          refine ⟨hx.1, by rw [h1, S.ver]; exact nv_le hx.2.1, fun c' hc' => ?_⟩
          rw [h1] at hc'
          obtain ⟨c0, g1, g2, g3, g4, g5⟩ := S.con c' (by rw [hc'])
          have : c0 = c := by rw [hlk] at g1; injection g1 with g1; exact g1.symm
          subst this
          rcases hx.2.2 c0 hlk with ⟨hn, hxn⟩ | ⟨b, cap, rfl, hown, hbs, hle, hmx⟩
          · exact .inl ⟨List.eq_nil_of_length_eq_zero (by rw [g5, hn]; rfl), hxn⟩
          exact .inr ⟨b, cap, by rw [g5], own0_at hown hns hk, by rw [g3]; exact hbs, by rw [g5]; exact hle, hmx⟩
        · cases hy
    · cases hy
  case ptr s v i off =>
    split at hy
    · rename_i c k hlive hk
      injection hy with hy; subst hy
      have hlk := live_lk hob hlive
      obtain ⟨b, rfl, hown⟩ := hx.2.2 c hlk
      obtain ⟨hns, o', h1, h2⟩ := hidx s k hk
      obtain ⟨S, _, _⟩ := mapOb_spec h2
      refine ⟨rfl, by rw [h1, S.ver]; exact nv_le hx.2.1, fun c' hc' => ?_⟩
      rw [h1] at hc'
      obtain ⟨c0, g1, g2, g3, g4, g5⟩ := S.con c' (by rw [hc'])
      have : c0 = c := by rw [hlk] at g1; injection g1 with g1; exact g1.symm
      subst this
      exact ⟨b, by rw [g3], own0_at hown hns hk⟩
    · cases hy
  case int k n => subst hy; exact toI0 (x := .int k n) hx
  case bool b => subst hy; exact toI0 (x := .bool b) hx
  case str b => subst hy; exact toI0 (x := .str b) hx
  case nil => subst hy; exact toI0 (x := .nil) hx
  case arr sz xs => subst hy; exact toI0 (x := .arr sz xs) hx
  case undef => subst hy; trivial

theorem HR0 (H : HR w own obl) (hob : ∀ s o', ob s = some o' → lk obl s = o') {oin : List Ob} (hoin : passObs ob (argV ob [] pass) pass = some oin) (hd : ∀ s ∈ snap, s ∉ pass) (hdp : distinct pass = true) :
    HR w (own0 own snap pass) (enumFrom 1000 oin) := by
  obtain ⟨hl, hpo⟩ := passObs_spec hob hoin
  refine ⟨fun t v c ht => ?_, fun b hb => own0_free (H.fresh b hb)⟩
  rcases Nat.lt_or_ge t 1000 with hlt | hge
  · rw [lk_enum_lt _ _ _ hlt] at ht; cases ht
  · obtain ⟨i, rfl⟩ : ∃ i, t = 1000 + i := ⟨t - 1000, by omega⟩
    rw [lk_enum] at ht
    have hi : i < oin.length := by
      rcases Nat.lt_or_ge i oin.length with h | h
      · exact h
      · rw [List.getD_eq_getElem?_getD, List.getElem?_eq_none h] at ht; cases ht
    obtain ⟨s, hs⟩ : ∃ s, pass[i]? = some s := ⟨pass[i], List.getElem?_eq_getElem (by omega)⟩
    obtain ⟨o', h1, h2⟩ := hpo i s hs
    have ho' : o' = ⟨v, some c⟩ := by rw [List.getD_eq_getElem?_getD, h1] at ht; exact ht
    subst ho'
    obtain ⟨S, _, hm⟩ := mapOb_spec h2
    obtain ⟨c0, g1, g2, g3, g4, g5⟩ := S.con c rfl
    have hlk : lk obl s = ⟨(lk obl s).ver, some c0⟩ := by rw [← g1]
    rcases H.blk s _ c0 hlk with hemp | ⟨b, cells, B⟩
    · refine .inl ⟨List.eq_nil_of_length_eq_zero (by rw [g5, hemp.1]; rfl), fun b hb => ?_⟩
      obtain ⟨s', h3, _, h5⟩ := own0_at_inv hb
      obtain ⟨i', e, hi'⟩ := idxOf_some h5
      have : i' = i := by omega
      subst this
      rw [hs] at hi'; injection hi' with hi'
      exact hemp.2 b (by rw [hi']; exact h3)
    right
    have hns : s ∉ snap := fun h => hd s h (List.mem_of_getElem? hs)
    have hk : ∀ s', idxOf pass s' 1000 = some (1000 + i) ↔ s' = s := by
      intro s'
      constructor
      · intro h
        obtain ⟨i', e, hi'⟩ := idxOf_some h
        have : i' = i := by omega
        subst this
        rw [hs] at hi'; injection hi' with hi'; exact hi'.symm
      · rintro rfl
        cases hq : idxOf pass s' 1000 with
        | none => exact absurd (List.mem_of_getElem? hs) (idxOf_none hq)
        | some k =>
          obtain ⟨i', rfl, hi'⟩ := idxOf_some hq
          rw [distinct_inj hdp i' i s' hi' hs]
    refine ⟨b, cells, own0_at B.owned hns ((hk s).2 rfl), fun b' hb' => ?_, by rw [g2]; exact B.heap, fun e he => ?_, by rw [g5, g3]; exact B.room, fun k e j y hke hy => ?_⟩
    · obtain ⟨s', h3, _, h5⟩ := own0_at_inv hb'
      have := (hk s').1 h5
      subst this
      exact B.only b' h3
    · obtain ⟨k, hk'⟩ := List.getElem?_of_mem he
      obtain ⟨e0, he0, hel, _⟩ := hm c0 c g1 rfl k e hk'
      rw [hel, g3]
      exact B.len e0 (List.mem_of_getElem? he0)
    · obtain ⟨e0, he0, _, hjy⟩ := hm c0 c g1 rfl k e hke
      obtain ⟨x, hx, hf⟩ := hjy j y hy
      obtain ⟨q, hq, hr⟩ := B.rep k e0 j x he0 hx
      refine ⟨q, by rw [g3]; exact hq, ?_⟩
      rw [g4]
      cases hfl : c0.flat with
      | true =>
        rw [hfl] at hf hr
        simp at hf; subst hf
        exact toI0 hr
      | false =>
        rw [hfl] at hf hr
        simp at hf
        exact argV_rep H hob hoin hd (snap' := []) (by simp) hr hf

end
end Go.Abs
