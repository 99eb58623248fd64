import Derived.Test.YtkjlebnmeimfnaaAbsUse
namespace Go.Abs

/-! a list is frozen: wherever it stands, it is a tree from here on -/
def gfV (ob : List (Nat × Ob)) (ss : List Nat) : V → V
  | .ref s v => match hasN ss s with
    | true => (match lk ob s with
      | ⟨v', some c⟩ => (match Nat.beq v' v && c.flat with | true => .arr c.sz c.es | false => .undef)
      | _ => .undef)
    | false => .ref s v
  | .ptr s v i off => match hasN ss s with | true => .undef | false => .ptr s v i off
  | x => x

def gfL (ob : List (Nat × Ob)) (ss : List Nat) : List V → List V
  | [] => []
  | v :: r => gfV ob ss v :: gfL ob ss r

def gfT (ob : List (Nat × Ob)) (ss : List Nat) : T → T
  | .one v => .one (gfV ob ss v)
  | .agg cs => .agg (gfL ob ss cs)
  | .tup _ => .undef

def gfSl (ob : List (Nat × Ob)) (ss : List Nat) : List T → List T
  | [] => []
  | t :: r => gfT ob ss t :: gfSl ob ss r

def gfCon (ob : List (Nat × Ob)) (ss : List Nat) (c : Con) : Con :=
  match c.flat with
  | true => c
  | false => ⟨c.ty, c.sz, false, c.es.map (gfL ob ss)⟩

def gfOb (ob : List (Nat × Ob)) (ss : List Nat) (s : Nat) (o : Ob) : Ob :=
  match hasN ss s with
  | true => ⟨o.ver + 1, none⟩
  | false => ⟨o.ver, match o.con with | some c => some (gfCon ob ss c) | none => none⟩

def gfObs (ob : List (Nat × Ob)) (ss : List Nat) : List (Nat × Ob) → List (Nat × Ob)
  | [] => []
  | (s, o) :: r => (s, gfOb ob ss s o) :: gfObs ob ss r

def frzSt (ss : List Nat) (st : St) : St := ⟨gfSl st.ob ss st.sl, gfObs st.ob ss st.ob⟩

theorem gfL_map (ob : List (Nat × Ob)) (ss : List Nat) : ∀ l : List V, gfL ob ss l = l.map (gfV ob ss)
  | [] => rfl
  | v :: r => by simp [gfL, gfL_map ob ss r]
theorem gfSl_map (ob : List (Nat × Ob)) (ss : List Nat) : ∀ l : List T, gfSl ob ss l = l.map (gfT ob ss)
  | [] => rfl
  | v :: r => by simp [gfSl, gfSl_map ob ss r]

theorem lk_gf (ob : List (Nat × Ob)) (ss : List Nat) (s : Nat) : ∀ l : List (Nat × Ob), (∃ o, (s, o) ∈ l) → lk (gfObs ob ss l) s = gfOb ob ss s (lk l s)
  | [], h => by obtain ⟨o, h⟩ := h; cases h
  | (t, o) :: r, h => by
    simp only [gfObs, lk]
    cases hb : Nat.beq t s with
    | true => have : t = s := by simpa using hb
              subst this; rfl
    | false =>
      simp only
      obtain ⟨o', h⟩ := h
      rcases List.mem_cons.1 h with h | h
      · injection h with h1 h2
        subst h1
        simp at hb
      · exact lk_gf ob ss s r ⟨o', h⟩
theorem lk_gf_none (ob : List (Nat × Ob)) (ss : List Nat) (s : Nat) : ∀ l : List (Nat × Ob), (¬∃ o, (s, o) ∈ l) → lk (gfObs ob ss l) s = ⟨0, none⟩ ∧ lk l s = ⟨0, none⟩
  | [], h => ⟨rfl, rfl⟩
  | (t, o) :: r, h => by
    have hne : Nat.beq t s = false := by
      rw [← Bool.not_eq_true]
      intro hh
      have : t = s := by simpa using hh
      subst this
      exact h ⟨o, List.mem_cons_self ..⟩
    simp only [gfObs, lk, hne]
    exact lk_gf_none ob ss s r fun ⟨o', h'⟩ => h ⟨o', List.mem_cons_of_mem _ h'⟩

section
variable {st : St} {w : World} {own : Nat → Own} {ss : List Nat}

theorem gf_ver (s : Nat) (hs : s ∉ ss) : (lk (frzSt ss st).ob s).ver = (lk st.ob s).ver := by
  by_cases h : ∃ o, (s, o) ∈ st.ob
  · show (lk (gfObs st.ob ss st.ob) s).ver = _
    rw [lk_gf _ _ _ _ h]
    unfold gfOb
    rw [hasN_false.2 hs]
  · obtain ⟨h1, h2⟩ := lk_gf_none st.ob ss s st.ob h
    show (lk (gfObs st.ob ss st.ob) s).ver = _
    rw [h1, h2]

theorem gf_con {s : Nat} {v : Nat} {c' : Con} (h : lk (frzSt ss st).ob s = ⟨v, some c'⟩) : s ∉ ss ∧ ∃ c, lk st.ob s = ⟨v, some c⟩ ∧ c' = gfCon st.ob ss c := by
  by_cases hm : ∃ o, (s, o) ∈ st.ob
  · have e : lk (frzSt ss st).ob s = _ := lk_gf st.ob ss s st.ob hm
    rw [e] at h
    unfold gfOb at h
    split at h
    · injection h with _ h; cases h
    · rename_i hn
      refine ⟨hasN_false.1 hn, ?_⟩
      generalize lk st.ob s = o at h ⊢
      obtain ⟨v0, oc⟩ := o
      injection h with h1 h2
      cases oc with
      | none => cases h2
      | some c => injection h2 with h2; exact ⟨c, by have h1 : v0 = v := h1; rw [h1], h2.symm⟩
  · obtain ⟨h1, h2⟩ := lk_gf_none st.ob ss s st.ob hm
    have : lk (frzSt ss st).ob s = _ := h1
    rw [this] at h
    injection h with _ h; cases h

theorem gfCon_len (c : Con) (ob : List (Nat × Ob)) : (gfCon ob ss c).ty = c.ty ∧ (gfCon ob ss c).sz = c.sz ∧ (gfCon ob ss c).flat = c.flat ∧ (gfCon ob ss c).es.length = c.es.length := by
  unfold gfCon
  split
  · exact ⟨rfl, rfl, rfl, rfl⟩
  · rename_i h
    exact ⟨rfl, rfl, h.symm, by simp⟩

theorem gf_trans : Trans w own st.ob w (ownF ss own) (frzSt ss st).ob := by
  refine ⟨fun a v h1 h2 => ⟨ownF_free h1, h2⟩, fun s => ?_⟩
  by_cases hs : s ∈ ss
  · by_cases hm : ∃ o, (s, o) ∈ st.ob
    · have e : lk (frzSt ss st).ob s = _ := lk_gf st.ob ss s st.ob hm
      rw [e]
      unfold gfOb
      rw [hasN_iff.2 hs]
      exact ⟨by simp, fun c' h => by injection h with h1 h2; cases h2⟩
    · obtain ⟨h1, h2⟩ := lk_gf_none st.ob ss s st.ob hm
      have e : lk (frzSt ss st).ob s = _ := h1
      rw [e, h2]
      exact ⟨Nat.le_refl _, fun c' h => by injection h with h1 h2; cases h2⟩
  · refine ⟨by rw [gf_ver s hs]; exact Nat.le_refl _, fun c' h => ?_⟩
    obtain ⟨_, c, h1, h2⟩ := gf_con h
    obtain ⟨_, e2, _, e4⟩ := gfCon_len (ss := ss) c st.ob
    subst h2
    exact ⟨c, h1, e2, e4, fun b hb => ⟨ownF_at.2 ⟨hb, hs⟩, rfl⟩⟩

theorem gfV_ref_in {ob : List (Nat × Ob)} {s v : Nat} (hs : hasN ss s = true) : gfV ob ss (.ref s v) = (match lk ob s with
      | ⟨v', some c⟩ => (match Nat.beq v' v && c.flat with | true => .arr c.sz c.es | false => .undef)
      | _ => .undef) := by simp only [gfV, hs]
theorem gfV_ref_out {ob : List (Nat × Ob)} {s v : Nat} (hs : hasN ss s = false) : gfV ob ss (.ref s v) = .ref s v := by simp only [gfV, hs]
theorem gfV_ptr_in {ob : List (Nat × Ob)} {s v i off : Nat} (hs : hasN ss s = true) : gfV ob ss (.ptr s v i off) = .undef := by simp only [gfV, hs]
theorem gfV_ptr_out {ob : List (Nat × Ob)} {s v i off : Nat} (hs : hasN ss s = false) : gfV ob ss (.ptr s v i off) = .ptr s v i off := by simp only [gfV, hs]

theorem gfV_rep (H : HR w own st.ob) {x : V} {u : Value} (h : RepV w own st.ob x u) : RepV w (ownF ss own) (frzSt ss st).ob (gfV st.ob ss x) u := by
  have keep : gfV st.ob ss x = x → RepV w (ownF ss own) (frzSt ss st).ob (gfV st.ob ss x) u := fun e => by rw [e]; exact RepV.trans gf_trans h
  cases x with
  | ref s v =>
    by_cases hs : hasN ss s = true
    · rw [gfV_ref_in hs]
      split
      · rename_i v' c hlk
        split
        · rename_i hb
          simp only [Bool.and_eq_true] at hb
          obtain ⟨hv, hf⟩ := hb
          have hv : v' = v := by simpa using hv
          subst hv
          rcases h.2.2 c hlk with ⟨hes0, rfl⟩ | ⟨b, cap, rfl, hown, hbs, hle, hmx⟩
          · rw [hes0]
            exact RepI.arr (w := w) (fr := frOf (ownF ss own)) c.sz [] none 0 (fun _ _ => undef) (by simp) (by simp) (by simp) (by simp) (by simp)
          obtain ⟨b', cells, B⟩ := (H.blk s v' c hlk).resolve_left fun h => h.2 b hown
          have hbb : b = b' := B.only b hown
          subst hbb
          refine RepI.arr (w := w) (fr := frOf (ownF ss own)) c.sz c.es _ cap (fun i j => cells.getD (i * c.sz + j) undef) (Nat.le_trans hle hmx) hle B.len (fun i e j x hi hj => ?_) fun _ => ⟨_, rfl, fun i e j x hi hj => ⟨ownF_dead hown (hasN_iff.1 hs), ?_⟩⟩
          · obtain ⟨q, hq, hr⟩ := B.rep i e j x hi hj
            rw [hf] at hr
            have : cells.getD (i * c.sz + j) undef = q := by simp [hq]
            rw [this]
            exact hr.mono fun a v h1 h2 => ⟨ownF_free h1, h2⟩
          · obtain ⟨q, hq, hr⟩ := B.rep i e j x hi hj
            rw [add_mid]
            simp only [World.cell?, B.heap]
            simp [hq]
        · trivial
      · trivial
    · have hs : hasN ss s = false := by simpa using hs
      exact keep (gfV_ref_out hs)
  | ptr s v i off =>
    by_cases hs : hasN ss s = true
    · rw [gfV_ptr_in hs]; trivial
    · have hs : hasN ss s = false := by simpa using hs
      exact keep (gfV_ptr_out hs)
  | int k n => exact keep rfl
  | bool b => exact keep rfl
  | str b => exact keep rfl
  | nil => exact keep rfl
  | arr sz xs => exact keep rfl
  | ipt cs off => exact keep rfl
  | fn f cap => exact keep rfl
  | void => exact keep rfl
  | undef => exact keep rfl

theorem gfT_rep (H : HR w own st.ob) {x : T} {u : Value} (h : RepT (RepV w own st.ob) x u) : RepT (RepV w (ownF ss own) (frzSt ss st).ob) (gfT st.ob ss x) u := by
  cases x with
  | one v => exact gfV_rep H h
  | agg cs =>
    obtain ⟨us, rfl, h⟩ := h
    refine ⟨us, rfl, ?_⟩
    show RepL _ (gfL st.ob ss cs) us
    rw [gfL_map]
    induction h with
    | nil => exact .nil
    | cons h1 _ ih => exact .cons (gfV_rep H h1) ih
  | tup ts => trivial

theorem frzSt_sound {tmps : Array Value} (ss : List Nat) (S : Sim st w own tmps) : ∃ own', Sim (frzSt ss st) w own' tmps ∧ WayI w own st.ob w own' (frzSt ss st).ob := by
  refine ⟨ownF ss own, ⟨⟨fun s v c' hc => ?_, fun b hb => ownF_free (S.1.fresh b hb)⟩, ?_, fun t => ?_⟩, ⟨⟨rfl, rfl, rfl, Nat.le_refl _, fun _ _ _ => rfl, fun _ _ h => ownF_free h, fun b => ?_⟩, fun a v h1 h2 => ⟨ownF_free h1, h2⟩, fun s _ => gf_trans.site s⟩⟩
  · obtain ⟨hs, c, h1, rfl⟩ := gf_con hc
    obtain ⟨e1, e2, e3, e4⟩ := gfCon_len (ss := ss) c st.ob
    rcases S.1.blk s v c h1 with hemp | ⟨b, cells, B⟩
    · exact .inl ⟨List.eq_nil_of_length_eq_zero (by rw [e4, hemp.1]; rfl), fun b hb => hemp.2 b (ownF_at.1 hb).1⟩
    right
    have key : ∀ (i : Nat) (e : List V), (gfCon st.ob ss c).es[i]? = some e → ∃ e0 : List V, c.es[i]? = some e0 ∧ e.length = e0.length ∧ ∀ (j : Nat) y, e[j]? = some y → ∃ x, e0[j]? = some x ∧ y = (if c.flat then x else gfV st.ob ss x) := by
      intro i e he
      unfold gfCon at he
      split at he
      · rename_i hf
        exact ⟨e, he, rfl, fun j y hy => ⟨y, hy, by rw [hf]; rfl⟩⟩
      · rename_i hf
        simp only [List.getElem?_map] at he
        obtain ⟨e0, h1, h2⟩ := Option.map_eq_some_iff.1 he
        subst h2
        refine ⟨e0, h1, by simp [gfL_map], fun j y hy => ?_⟩
        rw [gfL_map, List.getElem?_map] at hy
        obtain ⟨x, h3, h4⟩ := Option.map_eq_some_iff.1 hy
        exact ⟨x, h3, by rw [hf]; exact h4.symm⟩
    refine ⟨b, cells, ownF_at.2 ⟨B.owned, hs⟩, fun b' hb' => B.only b' (ownF_at.1 hb').1, by rw [e1]; exact B.heap, fun e he => ?_, by rw [e4, e2]; exact B.room, fun i e j y he hy => ?_⟩
    · obtain ⟨i, hi⟩ := List.getElem?_of_mem he
      obtain ⟨e0, h1, h2, _⟩ := key i e hi
      rw [h2, e2]
      exact B.len e0 (List.mem_of_getElem? h1)
    · obtain ⟨e0, h1, _, h3⟩ := key i e he
      obtain ⟨x, h4, h5⟩ := h3 j y hy
      obtain ⟨q, hq, hr⟩ := B.rep i e0 j x h1 h4
      refine ⟨q, by rw [e2]; exact hq, ?_⟩
      rw [e3]
      subst h5
      cases hf : c.flat with
      | true =>
        rw [hf] at hr
        exact RepC.trans (flat := true) gf_trans hr
      | false =>
        rw [hf] at hr
        exact gfV_rep S.1 hr
  · show tmps.size = (gfSl _ _ _).length
    rw [gfSl_map, List.length_map]; exact S.2.1
  · show RepT _ ((gfSl _ _ _).getD t .undef) _
    rw [gfSl_map, List.getD_eq_getElem?_getD, List.getElem?_map]
    have := S.2.2 t
    unfold St.rd at this
    rw [List.getD_eq_getElem?_getD] at this
    cases hx : st.sl[t]? with
    | none => exact trivial
    | some x =>
      rw [hx] at this
      exact gfT_rep S.1 this
  · unfold ownF
    constructor
    · intro h; rw [h]
    · intro h
      split at h
      · split at h <;> cases h
      · cases h
      · assumption

end
end Go.Abs
