import Derived.Test.YtkjlebnmeimfnaaAbsOps
namespace Go.Abs

section
variable {P : Program} {o : Oper} {a : Act} {w : World} {own : Nat → Own} {obl : Obs} {rd : Nat → T} {ob : Nat → Option Ob} {ch : Ch} {e : Eff}

theorem add_mid (b o j : Nat) : (⟨b, o, none⟩ : Addr).add j = ⟨b, o + j, none⟩ := by unfold Addr.add; split <;> simp_all

theorem run_sizeOf {t n} (h : sizeT P t = some n) (w : World) : (sizeOf t).run P w = .ok n w := by
  unfold sizeT at h
  cases hi : P.info? t with
  | none => simp [hi] at h
  | some i => simp [hi] at h; subst h; simp [sizeOf, typeInfo, hi]

theorem run_isAgg {t b} (h : isAggT P t = some b) (w : World) : (isAgg t).run P w = .ok b w := by
  unfold isAggT at h
  cases hu : P.underlying t with
  | none => simp [hu] at h
  | some d =>
    rw [hu] at h
    unfold isAgg
    rw [Sem.run_bind, run_underlying hu w]
    cases d <;> simp_all

theorem under_elem {t e} (h : elemT P t = some e) : P.underlying t = some (.slice e) := by
  unfold elemT at h
  split at h
  · rename_i e' hu; injection h with h; subst h; exact hu
  · cases h

/-! loads -/
theorem loadVar_run {t : TypeId} {cs : List V} {off : Nat} {r : T} (h : partT P t cs off = some r) (A : Addr)
    (hc : ∀ j x, cs[off + j]? = some x → ∃ u, w.cell? (A.add j) = some u ∧ RepV w own obl x u) : ∃ v, (loadVar t A).run P w = .ok v w ∧ RepT (RepV w own obl) r v := by
  unfold partT at h
  split at h
  · rename_i n hn
    split at h
    · rename_i hle
      have hle : off + n ≤ cs.length := by simpa using hle
      unfold mkT at h
      have hget : ∀ j x, ((cs.drop off).take n)[j]? = some x → cs[off + j]? = some x := by
        intro j x hx
        rw [List.getElem?_take] at hx
        split at hx
        · simpa [List.getElem?_drop] using hx
        · cases hx
      have hlen : ((cs.drop off).take n).length = n := by simp; omega
      split at h
      · rename_i cs' ha
        injection h with h; subst h
        -- the cells, one by one
        have key : ∀ (l : List V) (k : Nat), (∀ j x, l[j]? = some x → cs[off + (k + j)]? = some x) → ∃ us : List Value, us.length = l.length ∧ RepL (RepV w own obl) l us ∧ ∀ j u, us[j]? = some u → w.cell? (A.add (k + j)) = some u := by
          intro l
          induction l with
          | nil => intro k _; exact ⟨[], rfl, .nil, by simp⟩
          | cons x l ih =>
            intro k hk
            obtain ⟨u, hu, hr⟩ := hc k x (by have := hk 0 x rfl; simpa using this)
            obtain ⟨us, h1, h2, h3⟩ := ih (k + 1) (fun j y hy => by have := hk (j + 1) y (by simpa using hy); rwa [show k + (j + 1) = k + 1 + j by omega] at this)
            refine ⟨u :: us, by simp [h1], .cons hr h2, fun j v hv => ?_⟩
            cases j with
            | zero => simp at hv; subst hv; simpa using hu
            | succ j => rw [show k + (j + 1) = k + 1 + j by omega]; exact h3 j v (by simpa using hv)
        obtain ⟨us, h1, h2, h3⟩ := key _ 0 (fun j x hx => by rw [Nat.zero_add]; exact hget j x hx)
        refine ⟨.agg us.toArray, ?_, us, rfl, h2⟩
        have hl := run_loadCells_list (P := P) w A us (fun j v hv => by have := h3 j v hv; rwa [Nat.zero_add] at this)
        rw [h1, hlen] at hl
        simp [loadVar, run_isAgg ha, run_sizeOf hn, hl]
      · rename_i v ha hv
        injection h with h; subst h
        obtain ⟨u, hu, hr⟩ := hc 0 v (hget 0 v (by rw [hv]; rfl))
        refine ⟨u, ?_, hr⟩
        have h0 : A.add 0 = A := rfl
        rw [h0] at hu
        simp [loadVar, run_isAgg ha, run_load, hu]
      · cases h
    · cases h
  · cases h

theorem ptr_cells (H : HR w own obl) {s v i off : Nat} {c : Con} {u : Value} (hl : lk obl s = ⟨v, some c⟩) (hr : RepV w own obl (.ptr s v i off) u) {cs : List V} (hi : c.es[i]? = some cs) :
    ∃ A, u = .pointer (some A) ∧ ∀ j x, cs[off + j]? = some x → ∃ u', w.cell? (A.add j) = some u' ∧ RepV w own obl x u' := by
  obtain ⟨b, rfl, hb⟩ := hr.2.2 c hl
  obtain ⟨b', cells, B⟩ := (H.blk s v c hl).resolve_left fun h => by rw [h.1] at hi; simp at hi
  have : b = b' := B.only b hb
  subst this
  refine ⟨_, rfl, fun j x hx => ?_⟩
  obtain ⟨u', hu, hr'⟩ := B.rep i cs (off + j) x hi hx
  refine ⟨u', ?_, hr'.toV⟩
  rw [add_mid]
  simp only [World.cell?, B.heap]
  rw [show i * c.sz + off + j = i * c.sz + (off + j) by omega]
  simpa using hu

theorem elemAt_spec {es : List (List V)} {i : Nat} {cs : List V} {p : List Prop} (h : elemAt ch es i = some (cs, p)) (hp : ∀ q ∈ p, q) : es[i]? = some cs := by
  unfold elemAt at h
  split at h
  · simp only [Option.some.injEq, Prod.mk.injEq] at h
    obtain ⟨rfl, rfl⟩ := h
    exact hp _ (by simp)
  · split at h
    · rename_i cs' hcs
      simp only [Option.some.injEq, Prod.mk.injEq] at h
      obtain ⟨rfl, rfl⟩ := h
      exact hcs
    · cases h

theorem out_load (H : HR w own obl) (hR : ∀ t, RepT (RepV w own obl) (rd t) (a.tmps.getD t undef)) (hob : ∀ s o', ob s = some o' → lk obl s = o') {t : TypeId} {x : Operand} (ho : o.op = .load t x)
    (he : (rdO rd x).bind (effLoad P ob ch t) = some e) (hp : ∀ p ∈ e.obs, p) : Out P o a w own obl e := by
  obtain ⟨tx, hx, he⟩ := Option.bind_eq_some_iff.1 he
  have hr := rdO_rep hR hx
  unfold effLoad at he
  split at he
  · rename_i s v i off
    split at he
    · rename_i c hl
      split at he
      · rename_i cs p hel
        obtain ⟨r, hpart, he⟩ := Option.bind_eq_some_iff.1 he
        injection he with he; subst he
        obtain ⟨A, hA, hc⟩ := ptr_cells H (live_lk hob hl) hr (elemAt_spec hel hp)
        obtain ⟨v, hv, hrv⟩ := loadVar_run hpart A hc
        refine out_pure H (v := v) ?_ hrv
        simp only [execOp, ho, Instr.loadAt, hA, Instr.sureAddr]
        simp [hv]
      · cases he
    · cases he
  · rename_i cs off
    obtain ⟨r, hpart, he⟩ := Option.bind_eq_some_iff.1 he
    injection he with he; subst he
    obtain ⟨A, hA, hc⟩ := hr
    obtain ⟨v, hv, hrv⟩ := loadVar_run (w := w) (own := own) (obl := obl) hpart A (fun j x hx => by
      obtain ⟨_, u, h1, h2⟩ := hc j x hx
      exact ⟨u, h1, RepV.ofI h2⟩)
    refine out_pure H (v := v) ?_ hrv
    simp only [execOp, ho, Instr.loadAt, hA, Instr.sureAddr]
    simp [hv]
  · cases he

/-! addresses -/
theorem out_fieldAddr (H : HR w own obl) (hR : ∀ t, RepT (RepV w own obl) (rd t) (a.tmps.getD t undef)) (hob : ∀ s o', ob s = some o' → lk obl s = o') {t : TypeId} {x : Operand} {f : Nat} (ho : o.op = .fieldAddr t x f)
    (he : (match fieldT P t f, rdO rd x with
    | some fd, some a => match sizeT P fd.type with
      | some (_ + 1) => addOff ob fd.offset a
      | _ => none
    | _, _ => none) = some e) : Out P o a w own obl e := by
  split at he
  · rename_i fd tx hf hx
    have hr := rdO_rep hR hx
    have hu : ∃ fs, P.underlying t = some (.struct fs) ∧ fs[f]? = some fd := by
      unfold fieldT at hf
      split at hf
      · rename_i fs hu; exact ⟨fs, hu, hf⟩
      · cases hf
    obtain ⟨fs, hu, hfs⟩ := hu
    split at he
    · rename_i n hn
      unfold addOff at he
      split at he
      · rename_i s v i off
        split at he
        · rename_i c hl
          injection he with he; subst he
          obtain ⟨b, hb, hown⟩ := hr.2.2 c (live_lk hob hl)
          refine out_pure H (v := .pointer (some ⟨b, i * c.sz + (off + fd.offset), none⟩)) ?_ ⟨rfl, hr.2.1, fun c' hc' => ?_⟩
          · simp only [execOp, ho, Instr.fieldAt, hb, Instr.sureAddr, fieldPlace]
            simp [run_underlying hu, hfs, run_sizeOf hn, add_mid, Nat.add_assoc]
          · have : c' = c := by
              have h1 := live_lk hob hl
              rw [h1] at hc'
              injection hc' with _ hc'
              injection hc' with hc'
              exact hc'.symm
            subst this
            exact ⟨b, rfl, hown⟩
        · cases he
      · rename_i cs off
        injection he with he; subst he
        obtain ⟨A, hA, hc⟩ := hr
        refine out_pure H (v := .pointer (some (A.add fd.offset))) ?_ ⟨_, rfl, fun j y hy => ?_⟩
        · simp only [execOp, ho, Instr.fieldAt, hA, Instr.sureAddr, fieldPlace]
          simp [run_underlying hu, hfs, run_sizeOf hn]
        · have := hc (fd.offset + j) y (by rw [← Nat.add_assoc]; exact hy)
          rw [addr_block, Addr.add_add]
          exact this
      · cases he
    · cases he
  · cases he

theorem out_field (H : HR w own obl) (hR : ∀ t, RepT (RepV w own obl) (rd t) (a.tmps.getD t undef)) {t : TypeId} {x : Operand} {f : Nat} (ho : o.op = .field t x f)
    (he : (match fieldT P t f, rdO rd x with
    | some fd, some (.agg cs) => (partT P fd.type cs fd.offset).bind ret
    | _, _ => none) = some e) : Out P o a w own obl e := by
  split at he
  · rename_i fd cs hf hx
    obtain ⟨r, hpart, he⟩ := Option.bind_eq_some_iff.1 he
    injection he with he; subst he
    obtain ⟨us, hu, hr⟩ := rdO_rep hR hx
    have hun : ∃ fs, P.underlying t = some (.struct fs) ∧ fs[f]? = some fd := by
      unfold fieldT at hf
      split at hf
      · rename_i fs hu; exact ⟨fs, hu, hf⟩
      · cases hf
    obtain ⟨fs, hun, hfs⟩ := hun
    have key : ∃ v, (part fd.type us.toArray fd.offset).run P w = .ok v w ∧ RepT (RepV w own obl) r v := by
      unfold partT at hpart
      split at hpart
      · rename_i n hn
        split at hpart
        · rename_i hle
          have hle : fd.offset + n ≤ cs.length := by simpa using hle
          unfold mkT at hpart
          split at hpart
          · rename_i _ cs' ha
            injection hpart with hpart; subst hpart
            refine ⟨.agg ((us.drop fd.offset).take n).toArray, ?_, _, rfl, (hr.drop _).take _⟩
            simp [part, run_isAgg ha, run_sizeOf hn, List.extract_eq_take_drop]
          · rename_i v ha hv
            injection hpart with hpart; subst hpart
            obtain ⟨u, hu1, hu2⟩ := hr.get fd.offset v (by
              have h0 : ((cs.drop fd.offset).take n)[0]? = some v := by rw [hv]; rfl
              rw [List.getElem?_take] at h0
              split at h0
              · simpa [List.getElem?_drop] using h0
              · cases h0)
            refine ⟨u, ?_, hu2⟩
            simp [part, run_isAgg ha, hu1]
          · cases hpart
        · cases hpart
      · cases hpart
    obtain ⟨v, hv, hrv⟩ := key
    refine out_pure H (v := v) ?_ hrv
    simp only [execOp, ho, Instr.field, hu, asAgg]
    simp [run_underlying hun, hfs, hv]
  · cases he

theorem out_indexAddr (H : HR w own obl) (hR : ∀ t, RepT (RepV w own obl) (rd t) (a.tmps.getD t undef)) (hob : ∀ s o', ob s = some o' → lk obl s = o') {t : TypeId} {x i : Operand} (ho : o.op = .indexAddr t x i)
    (he : (match rdO rd x, rdO rd i with
    | some x, some i => effIndexAddr P ob ch t x i
    | _, _ => none) = some e) (hp : ∀ p ∈ e.obs, p) : Out P o a w own obl e := by
  split at he
  · rename_i tx ti hx hi
    have hxr := rdO_rep hR hx
    have hir := rdO_rep hR hi
    unfold effIndexAddr at he
    split at he
    · rename_i sz xs k n m cs hn
      obtain ⟨el, hel, hsz⟩ := Option.bind_eq_some_iff.1 hn
      have hu := under_elem hel
      split at he
      · rename_i hm
        have hm : sz = m := by simpa using hm
        subst hm
        injection he with he; subst he
        have h0 : 0 ≤ n := hp _ (by simp)
        have hcs : xs[n.toNat]? = some cs := hp _ (by simp)
        have hlt : n.toNat < xs.length := (List.getElem?_eq_some_iff.1 hcs).1
        have hk := rep_int (obl := obl) hir
        generalize hxv : a.eval x = xv at hxr
        cases hxr with
        | arr _ _ A cap val hx hc hl hr hmem =>
        obtain ⟨ad, hA, hcell⟩ := hmem (by omega)
        subst hA
        have hlt' : n < (xs.length : Int) := by omega
        refine out_pure H (v := .pointer (some (ad.add (n.toNat * sz)))) ?_ ⟨_, rfl, fun j y hy => ?_⟩
        · simp only [execOp, ho, Instr.indexAt, hk, hxv, asIntOf]
          simp [run_underlying hu, run_sizeOf hsz, h0, hlt']
        · rw [Nat.zero_add] at hy
          obtain ⟨h1, h2⟩ := hcell _ _ j y hcs hy
          rw [addr_block, Addr.add_add]
          exact ⟨h1, _, h2, hr _ _ j y hcs hy⟩
      · cases he
    · rename_i s v k n m hn
      obtain ⟨el, hel, hsz⟩ := Option.bind_eq_some_iff.1 hn
      have hu := under_elem hel
      split at he
      · rename_i c hl
        split at he
        · rename_i hm
          have hm : c.sz = m := by simpa using hm
          injection he with he; subst he
          have h0 : 0 ≤ n := hp _ (by simp)
          have h1 : n < (c.es.length : Int) := hp _ (by simp)
          have hk := rep_int (obl := obl) hir
          obtain ⟨b, cap, hb, hown, _⟩ := (hxr.2.2 c (live_lk hob hl)).resolve_left fun h => by rw [h.1] at h1; simp at h1; omega
          refine out_pure H (v := .pointer (some ⟨b, n.toNat * c.sz + 0, none⟩)) ?_ ⟨rfl, hxr.2.1, fun c' hc' => ?_⟩
          · simp only [execOp, ho, Instr.indexAt, hk, hb, asIntOf]
            simp [run_underlying hu, run_sizeOf hsz, h0, h1, add_mid, hm]
          · have : c' = c := by
              have h1 := live_lk hob hl
              rw [h1] at hc'
              injection hc' with _ hc'
              injection hc' with hc'
              exact hc'.symm
            subst this
            exact ⟨b, rfl, hown⟩
        · cases he
      · cases he
    · cases he
  · cases he

/-! slice expressions -/
theorem bound_run {d : Int} {x : Option Operand} {n : Int} (hR : ∀ t, RepT (RepV w own obl) (rd t) (a.tmps.getD t undef)) (h : boundA rd d x = some n) :
    (x = none ∧ n = d) ∨ ∃ y k, x = some y ∧ a.eval y = .int k n := by
  cases x with
  | none => simp [boundA] at h; exact .inl ⟨rfl, h.symm⟩
  | some y =>
    simp only [boundA] at h
    split at h
    · rename_i k m hy
      injection h with h; subst h
      exact .inr ⟨y, k, rfl, rep_int (obl := obl) (rdO_rep hR hy)⟩
    · cases h

theorem sliceBounds_run {isS : Bool} {len cap : Nat} {lo hi : Option Operand} {l h : Int} (hl : (lo = none ∧ l = 0) ∨ ∃ y k, lo = some y ∧ a.eval y = .int k l) (hh : (hi = none ∧ h = len) ∨ ∃ y k, hi = some y ∧ a.eval y = .int k h)
    (h0 : 0 ≤ l) (h1 : l ≤ h) (h2 : h ≤ (len : Int)) (hc : len ≤ cap) :
    (Instr.sliceBounds isS len cap (lo.map a.eval) (hi.map a.eval) none).run P w = .ok (l.toNat, h.toNat, cap) w := by
  have hcap : h ≤ (cap : Int) := by omega
  have hh0 : 0 ≤ h := by omega
  have hlh : l ≤ ((h.toNat : Nat) : Int) := by omega
  rcases hl with ⟨rfl, rfl⟩ | ⟨y, k, rfl, hy⟩ <;> rcases hh with ⟨rfl, rfl⟩ | ⟨z, k', rfl, hz⟩
  · simp [Instr.sliceBounds]
  · simp [Instr.sliceBounds, Instr.sliceBound, hz, asIntOf, hh0, hcap]
  · simp [Instr.sliceBounds, Instr.sliceBound, hy, asIntOf, h0, h1]
  · simp [Instr.sliceBounds, Instr.sliceBound, hy, hz, asIntOf, h0, hh0, hcap, hlh, h1]
    intro h3
    omega

theorem out_slice (H : HR w own obl) (hR : ∀ t, RepT (RepV w own obl) (rd t) (a.tmps.getD t undef)) {t : TypeId} {x : Operand} {lo hi mx : Option Operand} (ho : o.op = .slice t x lo hi mx)
    (he : ((rdO rd x).bind fun x => effSlice (P.underlying t) ((elemT P t).bind (sizeT P)) rd x lo hi mx) = some e) (hp : ∀ p ∈ e.obs, p) : Out P o a w own obl e := by
  obtain ⟨tx, hx, he⟩ := Option.bind_eq_some_iff.1 he
  have hxr := rdO_rep hR hx
  unfold effSlice at he
  split at he
  · cases he
  · split at he
    · rename_i s
      split at he
      · rename_i l h hl hh hu
        injection he with he; subst he
        have h0 : 0 ≤ l := hp _ (by simp)
        have h1 : l ≤ h := hp _ (by simp)
        have h2 : h ≤ (s.size : Int) := hp _ (by simp)
        refine out_pure H (v := .string (s.extract l.toNat h.toNat)) ?_ (.str _)
        have hb := sliceBounds_run (P := P) (w := w) (a := a) (isS := false) (len := s.size) (cap := s.size) (bound_run hR hl) (bound_run hR hh) h0 h1 h2 (Nat.le_refl _)
        simp only [execOp, ho, rep_str (obl := obl) hxr, Instr.sliceAt]
        simp [run_underlying hu, Instr.slice, hb]
      · cases he
    · rename_i sz xs
      split at he
      · rename_i l h n hl hh hn
        obtain ⟨el, hel, hsz⟩ := Option.bind_eq_some_iff.1 hn
        have hu := under_elem hel
        split at he
        · rename_i hm
          have hm : sz = n := by simpa using hm
          subst hm
          injection he with he; subst he
          have h0 : 0 ≤ l := hp _ (by simp)
          have h1 : l ≤ h := hp _ (by simp)
          have h2 : h ≤ (xs.length : Int) := hp _ (by simp)
          generalize hxv : a.eval x = xv at hxr
          cases hxr with
          | arr _ _ A cap val hxm hc hlen hr hmem =>
          have hb := sliceBounds_run (P := P) (w := w) (a := a) (isS := true) (len := xs.length) (cap := cap) (bound_run hR hl) (bound_run hR hh) h0 h1 h2 hc
          have hll : ((xs.take h.toNat).drop l.toNat).length = h.toNat - l.toNat := by simp; omega
          have hget : ∀ i ee, ((xs.take h.toNat).drop l.toNat)[i]? = some ee → xs[l.toNat + i]? = some ee := by
            intro i ee hi
            rw [List.getElem?_drop, List.getElem?_take] at hi
            split at hi
            · exact hi
            · cases hi
          refine out_pure H (v := .slice (if cap = l.toNat then A else A.map (·.add (l.toNat * sz))) (h.toNat - l.toNat) (cap - l.toNat)) ?_ ?_
          · simp only [execOp, ho, hxv, Instr.sliceAt]
            simp [run_underlying hu, Instr.slice, hb, run_sizeOf hsz]
          · show RepI w (frOf own) _ _
            rw [← hll]
            refine .arr sz _ _ _ (fun i j => val (l.toNat + i) j) (by rw [hll]; omega) (by rw [hll]; omega) (fun ee hee => hlen ee (List.mem_of_mem_take (List.mem_of_mem_drop hee))) (fun i ee j y hi hj => hr _ _ j y (hget i ee hi) hj) fun hpos => ?_
            obtain ⟨ad, hA, hcell⟩ := hmem (by rw [hll] at hpos; omega)
            subst hA
            rw [if_neg (by rw [hll] at hpos; omega)]
            refine ⟨ad.add (l.toNat * sz), rfl, fun i ee j y hi hj => ?_⟩
            obtain ⟨g1, g2⟩ := hcell _ _ j y (hget i ee hi) hj
            rw [addr_block, Addr.add_add]
            refine ⟨g1, ?_⟩
            rw [show l.toNat * sz + (i * sz + j) = (l.toNat + i) * sz + j by rw [Nat.add_mul]; omega]
            exact g2
        · cases he
      · cases he
    · cases he

/-! len, min, max -/
theorem isSliceD_spec {u} (h : isSliceD u = true) : ∃ e, u = some (.slice e) := by
  unfold isSliceD at h
  split at h
  · exact ⟨_, rfl⟩
  · cases h

theorem len_run (hob : ∀ s o', ob s = some o' → lk obl s = o') {x : V} {u : Value} {n : Int} {t ty : TypeId} (hx : RepV w own obl x u) (hn : lenV (P.underlying t) ob x = some n) :
    (Builtin.len_ #[t] ty #[u]).run P w = .ok (.int .i64 n) w := by
  cases x <;> simp only [lenV, reduceCtorEq] at hn
  case str s =>
    split at hn
    · rename_i hd
      injection hn with hn; subst hn
      rw [rep_str (obl := obl) hx]
      simp [Builtin.len_, run_underlying hd, goInt]
    · cases hn
  case nil =>
    split at hn
    · rename_i hd
      obtain ⟨e, hd⟩ := isSliceD_spec hd
      injection hn with hn; subst hn
      rw [rep_nil (obl := obl) hx]
      simp [Builtin.len_, run_underlying hd, goInt]
    · cases hn
  case arr sz xs =>
    split at hn
    · rename_i hd
      obtain ⟨e, hd⟩ := isSliceD_spec hd
      injection hn with hn; subst hn
      cases hx with
      | arr _ _ A cap val hx hc hl hr hmem => simp [Builtin.len_, run_underlying hd, goInt]
    · cases hn
  case ref s v =>
    split at hn
    · rename_i c hl hd
      obtain ⟨e, hd⟩ := isSliceD_spec hd
      injection hn with hn; subst hn
      rcases hx.2.2 c (live_lk hob hl) with ⟨he, rfl⟩ | ⟨b, cap, rfl, _⟩
      · rw [he]; simp [Builtin.len_, run_underlying hd, goInt]
      simp [Builtin.len_, run_underlying hd, goInt]
    · cases hn

end
end Go.Abs
