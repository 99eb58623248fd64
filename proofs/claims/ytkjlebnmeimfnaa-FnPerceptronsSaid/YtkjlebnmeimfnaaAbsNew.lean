import Derived.Test.YtkjlebnmeimfnaaAbsMem
import Derived.Great.FillDense
import Derived.Great.BuildSlice
namespace Go.Abs

section
variable {P : Program} {o : Oper} {a : Act} {w : World} {own : Nat → Own} {obl : Obs} {rd : Nat → T} {ob : Nat → Option Ob} {ch : Ch} {e : Eff}

/-- the block 'n' goes to the site 's'; what the site had is free -/
def give (own : Nat → Own) (n s : Nat) : Nat → Own := fun b => if b = n then .at s else match own b with
  | .at t => if t = s then .free else .at t
  | x => x
theorem give_new (own : Nat → Own) (n s : Nat) : give own n s n = .at s := by simp [give]
theorem give_old {own : Nat → Own} {n s b : Nat} (h : b ≠ n) (ho : own b ≠ .at s) : give own n s b = own b := by
  unfold give
  rw [if_neg h]
  split
  · rename_i t ht
    rw [if_neg (fun e => ho (by rw [ht, e])), ht]
  · rfl
theorem give_at {own : Nat → Own} {n s b t : Nat} (h : give own n s b = .at t) : (b = n ∧ t = s) ∨ (b ≠ n ∧ t ≠ s ∧ own b = .at t) := by
  unfold give at h
  split at h
  · rename_i hb; injection h with h; exact .inl ⟨hb, h.symm⟩
  · rename_i hb
    split at h
    · rename_i t' ht
      split at h
      · cases h
      · rename_i hts; injection h with h; subst h; exact .inr ⟨hb, hts, ht⟩
    · rename_i hno; exact absurd h (hno t)
theorem give_outer {own : Nat → Own} {n s b : Nat} (h : give own n s b = .outer) : own b = .outer := by
  unfold give at h
  split at h
  · cases h
  · split at h
    · split at h <;> cases h
    · exact h

/-- A new block at a site. -/
theorem new_site (H : HR w own obl) {w1 : World} (s : Nat) (c : Con) (cells : Array Value) (hw : w1.heap = w.heap) (hos : w1.os = w.os) (htape : w1.tape = w.tape) (hout : w1.output = w.output)
    (hlen : ∀ e ∈ c.es, e.length = c.sz) (hroom : c.es.length * c.sz ≤ cells.size)
    (hrep : ∀ i e j x, c.es[i]? = some e → e[j]? = some x → ∃ u, cells[i * c.sz + j]? = some u ∧ RepC c.flat w own obl x u) :
    Trans w own obl (w1.alloc (.cells cells c.ty)) (give own w.heap.size s) (up obl s ⟨(lk obl s).ver + 1, some c⟩) ∧
    HR (w1.alloc (.cells cells c.ty)) (give own w.heap.size s) (up obl s ⟨(lk obl s).ver + 1, some c⟩) ∧
    Keep w own (w1.alloc (.cells cells c.ty)) (give own w.heap.size s) := by
  have hsz : (w1.alloc (.cells cells c.ty)).heap.size = w.heap.size + 1 := by
    show (w1.heap.push _).size = _
    rw [hw]; simp
  have hold : ∀ b, b < w.heap.size → (w1.alloc (.cells cells c.ty)).heap[b]? = w.heap[b]? := fun b hb => by
    rw [heap_alloc_old w1 _ b (by rw [hw]; exact hb), hw]
  have hnew : (w1.alloc (.cells cells c.ty)).heap[w.heap.size]? = some (.cells cells c.ty (0, 0)) := by
    have := heap_alloc_new w1 (.cells cells c.ty)
    rwa [hw] at this
  refine site_step H hos htape hout (by rw [hsz]; omega) (fun b hb ho => ⟨hold b hb, give_old (by omega) ho⟩) (fun b t h ht => ?_) (fun b hb => ?_) (fun b h => give_outer h) (Nat.le_succ _) (fun c' _ h => absurd h (by omega)) ?_
  · rcases give_at h with ⟨_, h⟩ | ⟨_, _, h⟩
    · exact absurd h ht
    · exact h
  · rw [hsz] at hb
    rw [give_old (by omega) (by rw [H.fresh b (by omega)]; intro h; cases h)]
    exact H.fresh b (by omega)
  · intro c' hc T
    injection hc with hc
    subst hc
    right
    refine ⟨w.heap.size, cells, give_new _ _ _, fun b' hb' => ?_, hnew, hlen, hroom, fun i e j x he hx => ?_⟩
    · rcases give_at hb' with ⟨h, _⟩ | ⟨_, h, _⟩
      · exact h
      · exact absurd rfl h
    · obtain ⟨u, hu, hr⟩ := hrep i e j x he hx
      exact ⟨u, hu, hr.trans T⟩

theorem newOb_spec (hob : ∀ s o', ob s = some o' → lk obl s = o') {s : Nat} {c : Con} {v : Nat} {wo : List (Nat × Ob)} (h : newOb ob s c = some (v, wo)) :
    v = (lk obl s).ver + 1 ∧ wo = [(s, ⟨(lk obl s).ver + 1, some c⟩)] := by
  unfold newOb at h
  split at h
  · rename_i o' ho
    injection h with h
    injection h with h1 h2
    rw [hob _ _ ho]
    exact ⟨h1.symm, h2.symm⟩
  · cases h

theorem lk_new (s v : Nat) (c : Con) : lk (up obl s ⟨v, some c⟩) s = ⟨v, some c⟩ := by rw [lk_up, if_pos rfl]

theorem new_ptr {s v n : Nat} {c : Con} {w' own'} (hown : own' n = .at s) : RepV w' own' (up obl s ⟨v, some c⟩) (.ptr s v 0 0) (.pointer (some ⟨n, 0, none⟩)) := by
  refine ⟨rfl, by rw [lk_new]; exact Nat.le_refl _, fun c' h => ⟨n, by simp, hown⟩⟩

theorem new_ref {s v n cap : Nat} {c : Con} {w' own'} (hown : own' n = .at s) (hb : bsz w' n = cap * c.sz) (hl : c.es.length ≤ cap) (hm : cap ≤ maxLen) :
    RepV w' own' (up obl s ⟨v, some c⟩) (.ref s v) (.slice (some ⟨n, 0, none⟩) c.es.length cap) := by
  refine ⟨rfl, by rw [lk_new]; exact Nat.le_refl _, fun c' h => ?_⟩
  rw [lk_new] at h
  injection h with _ h
  injection h with h
  subst h
  exact .inr ⟨n, cap, rfl, hown, hb, hl, hm⟩

def clr (own : Nat → Own) (s : Nat) : Nat → Own := fun b => match own b with
  | .at t => if t = s then .free else .at t
  | x => x
theorem clr_at {own : Nat → Own} {s b t : Nat} (h : clr own s b = .at t) : t ≠ s ∧ own b = .at t := by
  unfold clr at h
  split at h
  · rename_i t' ht
    split at h
    · cases h
    · rename_i hne
      injection h with h; subst h
      exact ⟨hne, ht⟩
  · rename_i hne
    exact absurd h (hne t)
theorem clr_old {own : Nat → Own} {s b : Nat} (h : own b ≠ .at s) : clr own s b = own b := by
  unfold clr
  split
  · rename_i t ht
    rw [if_neg (fun e => h (by rw [ht, e]))]
    exact ht.symm
  · rfl

/-- an empty slice that has no memory yet, as an object of its own -/
theorem new_nil (H : HR w own obl) (s : Nat) (ty sz : Nat) : Trans w own obl w (clr own s) (up obl s ⟨(lk obl s).ver + 1, some ⟨ty, sz, true, []⟩⟩) ∧ HR w (clr own s) (up obl s ⟨(lk obl s).ver + 1, some ⟨ty, sz, true, []⟩⟩) ∧ Keep w own w (clr own s) ∧
    RepV w (clr own s) (up obl s ⟨(lk obl s).ver + 1, some ⟨ty, sz, true, []⟩⟩) (.ref s ((lk obl s).ver + 1)) (.slice none 0 0) := by
  have key := site_step (w' := w) (own' := clr own s) (s := s) (ver := (lk obl s).ver + 1) (oc := some ⟨ty, sz, true, []⟩) H rfl rfl rfl (Nat.le_refl _) (fun b _ ho => ⟨rfl, clr_old ho⟩) (fun b t h _ => (clr_at h).2)
    (fun b hb => by rw [clr_old (by rw [H.fresh b hb]; intro h; cases h)]; exact H.fresh b hb)
    (fun b h => by
      unfold clr at h
      split at h
      · split at h <;> cases h
      · exact h) (Nat.le_succ _) (fun _ _ h => absurd h (by omega)) (fun c' hc' _ => by injection hc' with hc'; subst hc'; exact .inl ⟨rfl, fun b hb => (clr_at hb).1 rfl⟩)
  obtain ⟨T, H', K⟩ := key
  refine ⟨T, H', K, rfl, by rw [lk_new]; exact Nat.le_refl _, fun c' h => ?_⟩
  rw [lk_new] at h
  injection h with _ h
  injection h with h
  subst h
  exact .inl ⟨rfl, rfl⟩

theorem one_elem {cs : List V} {us : List Value} (hr : RepL (RepV w own obl) cs us) : ∀ i e j x, [cs][i]? = some e → e[j]? = some x → ∃ u, us.toArray[i * cs.length + j]? = some u ∧ RepC false w own obl x u := by
  intro i e j x he hx
  cases i with
  | zero =>
    simp at he; subst he
    obtain ⟨u, hu, hr'⟩ := hr.get j x hx
    exact ⟨u, by simpa using hu, hr'⟩
  | succ i => simp at he

/-- alloc and box: a new variable with these cells -/
theorem out_newVar (H : HR w own obl) (hob : ∀ s o', ob s = some o' → lk obl s = o') {t : TypeId} {cs : List V} {val : Value} (hr : RepL (RepV w own obl) cs val.cells.toList) {d v : Nat} {wo : List (Nat × Ob)}
    (hrun : (execOp a.eval o).run P w = .ok (.value (.pointer (some ⟨w.heap.size, 0, none⟩))) (w.alloc (.cells val.cells t)))
    (hn : newOb ob d ⟨t, cs.length, false, [cs]⟩ = some (v, wo)) {p : List Prop} : Out P o a w own obl ⟨.one (.ptr d v 0 0), wo, p⟩ := by
  obtain ⟨rfl, rfl⟩ := newOb_spec hob hn
  have hl := hr.length
  obtain ⟨T, H', K⟩ := new_site H (w1 := w) d ⟨t, cs.length, false, [cs]⟩ val.cells rfl rfl rfl rfl (by simp) (by simp [← hl]) (by simpa using one_elem hr)
  exact ⟨_, _, _, .inl hrun, T, H', K, new_ptr (w' := w.alloc (.cells val.cells t)) (give_new _ _ _)⟩

theorem zero_spec {t : TypeId} {z : List V} (h : (zeroT P t).bind T.cells = some z) : ∃ i zv, P.info? t = some i ∧ i.zero = some zv ∧ RepL (RepV w own obl) z zv.cells.toList ∧ ∀ v ∈ zv.cells.toList, v.oneCell' = true := by
  obtain ⟨tz, hz, hc⟩ := Option.bind_eq_some_iff.1 h
  unfold zeroT at hz
  split at hz
  · rename_i i hi
    split at hz
    · rename_i zv hzv
      obtain ⟨h1, h2, _⟩ := RepT.cells (TofVal_rep (w := w) (own := own) (obl := obl) hz) hc
      exact ⟨i, zv, hi, hzv, h1, h2⟩
    · cases hz
  · cases hz

theorem out_alloc (H : HR w own obl) (hob : ∀ s o', ob s = some o' → lk obl s = o') {t : TypeId} (ho : o.op = .alloc t) {d : Nat}
    (he : (match (zeroT P t).bind T.cells with
    | some cs => match newOb ob d ⟨t, cs.length, false, [cs]⟩ with
      | some (v, wo) => some (⟨.one (.ptr d v 0 0), wo, []⟩ : Eff)
      | none => none
    | none => none) = some e) : Out P o a w own obl e := by
  split at he
  · rename_i cs hz
    split at he
    · rename_i v wo hn
      injection he with he; subst he
      obtain ⟨i, zv, hi, hzv, hr, _⟩ := zero_spec (w := w) (own := own) (obl := obl) hz
      refine out_newVar H hob hr ?_ hn
      simp only [execOp, ho, Instr.alloc]
      simp [zeroValue, typeInfo, hi, hzv, newVar, newRow]
    · cases he
  · cases he

theorem out_box (H : HR w own obl) (hR : ∀ t, RepT (RepV w own obl) (rd t) (a.tmps.getD t undef)) (hob : ∀ s o', ob s = some o' → lk obl s = o') {t : TypeId} {x : Operand} (ho : o.op = .box t x) {d : Nat}
    (he : (match (rdO rd x).bind T.cells with
    | some cs => match newOb ob d ⟨t, cs.length, false, [cs]⟩ with
      | some (v, wo) => some (⟨.one (.ptr d v 0 0), wo, []⟩ : Eff)
      | none => none
    | none => none) = some e) : Out P o a w own obl e := by
  split at he
  · rename_i cs hz
    obtain ⟨tx, hx, hc⟩ := Option.bind_eq_some_iff.1 hz
    split at he
    · rename_i v wo hn
      injection he with he; subst he
      refine out_newVar H hob (RepT.cells (rdO_rep hR hx) hc).1 ?_ hn
      simp only [execOp, ho, Instr.box]
      simp [newVar, newRow]
    · cases he
  · cases he

/-! fill -/
theorem fill_step (off : Nat) (vs : List Value) (us : List Value) (h : off + vs.length ≤ us.length) :
    (vs.toArray.zipIdx.foldl (fun cs (c, j) => cs.setIfInBounds (off + j) c) us.toArray) = (us.take off ++ vs ++ us.drop (off + vs.length)).toArray := by
  have e : vs.toArray.zipIdx.foldl (fun cs (x : Value × Nat) => cs.setIfInBounds (off + x.2) x.1) us.toArray = (vs.zipIdx 0).foldl (fun cs (x : Value × Nat) => cs.setIfInBounds (off + x.2) x.1) us.toArray := by
    rw [← Array.foldl_toList]; simp
  obtain ⟨h1, h2⟩ := Great.foldl_set off vs 0 us.toArray
  rw [← e] at h1 h2
  apply Array.ext_getElem?
  intro k
  rw [show (fun (cs : Array Value) (x : Value × Nat) => match x with | (c, j) => cs.setIfInBounds (off + j) c) = fun cs x => cs.setIfInBounds (off + x.2) x.1 from rfl, h2 k]
  simp only [Nat.add_zero, List.size_toArray, List.getElem?_toArray]
  by_cases hk : off ≤ k ∧ k < off + vs.length ∧ k < us.length
  · rw [if_pos hk, List.append_assoc, List.getElem?_append_right (by simp; omega), List.getElem?_append_left (by simp; omega)]
    congr 1; simp; omega
  · rw [if_neg hk]
    by_cases hk1 : k < off
    · rw [List.append_assoc, List.getElem?_append_left (by simp; omega), List.getElem?_take, if_pos hk1]
    · rw [List.getElem?_append_right (by simp; omega), List.getElem?_drop]
      congr 1; simp; omega

theorem fillV_run {place : Nat → Option (Nat × Nat)} : ∀ {ps : List (Nat × List V)} {pv : List (Nat × Value)} {cs cs' : List V} {us : List Value},
    fillV place cs ps = some cs' → RepL (RepV w own obl) cs us → (ps.length = pv.length ∧ ∀ (k : Nat) i ys, ps[k]? = some (i, ys) → ∃ u, pv[k]? = some (i, u) ∧ RepL (RepV w own obl) ys u.cells.toList) →
    ∃ us' : List Value, Instr.fill place us.toArray pv = some us'.toArray ∧ RepL (RepV w own obl) cs' us'
  | [], pv, cs, cs', us, h, hr, hp => by
    simp only [fillV, Option.some.injEq] at h
    subst h
    have : pv = [] := List.eq_nil_of_length_eq_zero hp.1.symm
    subst this
    exact ⟨us, rfl, hr⟩
  | (i, ys) :: ps, pv, cs, cs', us, h, hr, hp => by
    simp only [fillV] at h
    split at h
    · cases h
    · rename_i off n hpl
      split at h
      · rename_i hc
        simp at hc
        obtain ⟨hn, hle⟩ := hc
        obtain ⟨u, hu, hru⟩ := hp.2 0 i ys rfl
        cases pv with
        | nil => simp at hu
        | cons q pv =>
          simp at hu
          subst hu
          have hl := hr.length
          have hul := hru.length
          have h' : RepL (RepV w own obl) (cs.take off ++ ys ++ cs.drop (off + n)) (us.take off ++ u.cells.toList ++ us.drop (off + n)) := ((hr.take off).append hru).append (hr.drop _)
          obtain ⟨us', h1, h2⟩ := fillV_run (pv := pv) h h' ⟨by simpa using hp.1, fun k i' ys' hk => by simpa using hp.2 (k + 1) i' ys' (by simpa using hk)⟩
          refine ⟨us', ?_, h2⟩
          have hus : u.cells.size = n := by rw [← Array.length_toList, hul, hn]
          unfold Instr.fill
          simp only [hpl]
          rw [if_neg (by rw [hus]; simp; omega)]
          rw [← h1]
          congr 1
          have := fill_step off u.cells.toList us (by rw [hul, hn]; omega)
          simp only [Array.toArray_toList] at this
          rw [this, hul, hn]
      · cases h

theorem partsV_spec (hR : ∀ t, RepT (RepV w own obl) (rd t) (a.tmps.getD t undef)) : ∀ {l : List (Nat × Operand)} {ps : List (Nat × List V)}, partsV rd l = some ps →
    ps.length = (l.map fun (i, x) => (i, a.eval x)).length ∧ ∀ (k : Nat) i ys, ps[k]? = some (i, ys) → ∃ u, (l.map fun (i, x) => (i, a.eval x))[k]? = some (i, u) ∧ RepL (RepV w own obl) ys u.cells.toList
  | [], ps, h => by simp [partsV] at h; subst h; simp
  | (i, x) :: l, ps, h => by
    simp only [partsV] at h
    split at h
    · rename_i cs ps' hx hl
      injection h with h; subst h
      obtain ⟨tx, hx, hc⟩ := Option.bind_eq_some_iff.1 hx
      obtain ⟨h1, h2⟩ := partsV_spec hR hl
      refine ⟨by simp [h1], fun k j ys hk => ?_⟩
      cases k with
      | zero =>
        simp at hk
        obtain ⟨rfl, rfl⟩ := hk
        exact ⟨a.eval x, by simp, (RepT.cells (rdO_rep hR hx) hc).1⟩
      | succ k => simpa using h2 k j ys (by simpa using hk)
    · cases h

theorem out_build (H : HR w own obl) (hR : ∀ t, RepT (RepV w own obl) (rd t) (a.tmps.getD t undef)) {t : TypeId} {parts : Array (Nat × Operand)} (ho : o.op = .build t parts)
    (he : (match (zeroT P t).bind T.cells, placesOf P t, partsV rd parts.toList with
    | some z, some places, some ps => (fillV (places[·]?) z ps).bind fun cs => ret (.agg cs)
    | _, _, _ => none) = some e) : Out P o a w own obl e := by
  split at he
  · rename_i z places ps hz hpl hps
    obtain ⟨cs, hf, he⟩ := Option.bind_eq_some_iff.1 he
    injection he with he; subst he
    obtain ⟨i, zv, hi, hzv, hr, _⟩ := zero_spec (w := w) (own := own) (obl := obl) hz
    obtain ⟨us', h1, h2⟩ := fillV_run hf hr (partsV_spec hR hps)
    unfold placesOf at hpl
    split at hpl
    · rename_i fs hu
      refine out_pure H (v := .agg us'.toArray) ?_ ⟨us', rfl, h2⟩
      have hb : P.built t (parts.map fun (i, x) => (i, a.eval x)).toList = some us'.toArray := by
        unfold Program.built
        simp only [hi, hu, hzv, hpl]
        rw [← h1]
        simp
      simp only [execOp, ho]
      simp [run_build w t _ _ hb]
    · cases hpl
  · cases he

theorem chunk_len : ∀ (n k : Nat) (l : List V), (chunk n k l).length = k
  | n, 0, l => rfl
  | n, k + 1, l => by simp [chunk, chunk_len n k]
theorem chunk_get : ∀ (n k : Nat) (l : List V) (i : Nat) (e : List V), l.length = k * n → (chunk n k l)[i]? = some e → e.length = n ∧ ∀ j x, e[j]? = some x → l[i * n + j]? = some x
  | n, 0, l, i, e, _, h => by simp [chunk] at h
  | n, k + 1, l, i, e, hl, h => by
    have hl' : l.length = k * n + n := by rw [hl, Nat.add_mul]; omega
    cases i with
    | zero =>
      simp [chunk] at h
      subst h
      refine ⟨by simp; omega, fun j x hx => ?_⟩
      rw [List.getElem?_take] at hx
      split at hx
      · simpa using hx
      · cases hx
    | succ i =>
      simp [chunk] at h
      obtain ⟨h1, h2⟩ := chunk_get n k (l.drop n) i e (by simp; omega) h
      refine ⟨h1, fun j x hx => ?_⟩
      have := h2 j x hx
      rw [List.getElem?_drop] at this
      rw [show (i + 1) * n + j = n + (i * n + j) by rw [Nat.add_mul]; omega]
      exact this

theorem periodic (z : List Value) (len : Nat) (hn : 0 < z.length) :
    ((Array.range (len * z.length)).map (z.toArray[· % z.toArray.size]!)).toList = (List.replicate len z).flatten := by
  apply List.ext_getElem?
  intro k
  have hfl : (List.replicate len z).flatten.length = len * z.length := by simp [List.length_flatten]
  by_cases hk : k < len * z.length
  · have h1 : k % z.length < z.length := Nat.mod_lt _ hn
    have h2 : ((Array.range (len * z.length)).map (z.toArray[· % z.toArray.size]!)).toList[k]? = some (z[k % z.length]'h1) := by
      simp [hk, List.getElem?_eq_getElem h1]
    rw [h2]
    have key : ∀ (len k : Nat), k < len * z.length → (List.replicate len z).flatten[k]? = some (z[k % z.length]'(Nat.mod_lt _ hn)) := by
      intro len
      induction len with
      | zero => intro k hk; simp at hk
      | succ len ih =>
        intro k hk
        rw [List.replicate_succ, List.flatten_cons]
        by_cases hkn : k < z.length
        · rw [List.getElem?_append_left (by omega), List.getElem?_eq_getElem (by omega)]
          simp [Nat.mod_eq_of_lt hkn]
        · rw [List.getElem?_append_right (by omega), ih (k - z.length) (by rw [Nat.add_mul] at hk; omega)]
          simp only [← Nat.mod_eq_sub_mod (Nat.le_of_not_lt hkn)]
    rw [key len k hk]
  · rw [List.getElem?_eq_none (by simp; omega), List.getElem?_eq_none (by omega)]

theorem RepL.flatten_replicate {R : V → Value → Prop} {z : List V} {zv : List Value} (h : RepL R z zv) : ∀ n, RepL R (List.replicate n z).flatten (List.replicate n zv).flatten
  | 0 => .nil
  | n + 1 => by rw [List.replicate_succ, List.replicate_succ, List.flatten_cons, List.flatten_cons]; exact h.append (RepL.flatten_replicate h n)

end
end Go.Abs
