import Derived.Test.YtkjlebnmeimfnaaPl8
namespace Go.Abs

theorem w64_mul (a b : Int) : w64 (w64 a * b) = w64 (a * b) := by simp only [w64_bmod]; exact Int.bmod_mul_bmod
theorem w64_sub (a b : Int) : w64 (w64 a - b) = w64 (a - b) := by rw [Int.sub_eq_add_neg, w64_add', Int.sub_eq_add_neg]
theorem w64_sub' (a b : Int) : w64 (a - w64 b) = w64 (a - b) := by
  simp only [w64_bmod]; exact Int.sub_bmod_bmod

/-! sums over a trace, sums over counts -/
def sumT (f : Nat → Int) : List Int → Int
  | [] => 0
  | t :: r => f t.toNat + sumT f r
def sumC (f : Nat → Int) : List Int → Nat → Int
  | [], _ => 0
  | c :: r, i => c * f i + sumC f r (i + 1)
theorem sumT_app (f : Nat → Int) : ∀ a b : List Int, sumT f (a ++ b) = sumT f a + sumT f b
  | [], b => by simp [sumT]
  | t :: a, b => by simp only [List.cons_append, sumT, sumT_app f a b]; omega

theorem sumC_set (f : Nat → Int) : ∀ (o : List Int) (k i : Nat), k < o.length → w64 (sumC f (o.set k (w64 (o.getD k 0 + 1))) i) = w64 (sumC f o i + f (i + k))
  | [], k, i, h => by simp at h
  | c :: o, 0, i, h => by
    simp only [List.set_cons_zero, List.getD_cons_zero, sumC, Nat.add_zero]
    rw [← w64_add', w64_mul, w64_add', Int.add_mul, Int.one_mul]
    congr 1; omega
  | c :: o, k + 1, i, h => by
    simp only [List.set_cons_succ, List.getD_cons_succ, sumC]
    rw [← w64_add, sumC_set f o k (i + 1) (by simpa using h), w64_add, show i + 1 + k = i + (k + 1) by omega]
    congr 1; omega

theorem sumC_incs (f : Nat → Int) : ∀ (T o : List Int), (∀ t ∈ T, ∃ i : Nat, t = i ∧ i < o.length) → w64 (sumC f (incs o T) 0) = w64 (sumC f o 0 + sumT f T)
  | [], o, _ => by simp [incs, sumT]
  | t :: r, o, h => by
    obtain ⟨k, rfl, hk⟩ := h t (List.mem_cons_self ..)
    simp only [incs, Int.toNat_natCast, sumT]
    rw [sumC_incs f r _ (fun t ht => by simpa using h t (List.mem_cons_of_mem _ ht)), ← w64_add', sumC_set f o k 0 hk, w64_add', Nat.zero_add]
    congr 1; omega

theorem sumC_zero (f : Nat → Int) : ∀ n i, sumC f (List.replicate n 0) i = 0
  | 0, i => rfl
  | n + 1, i => by simp [List.replicate_succ, sumC, sumC_zero f n]

theorem incs_bound : ∀ (T o : List Int) (K : Int), (∀ t ∈ T, ∃ i : Nat, t = i ∧ i < o.length) → (∀ c ∈ o, 0 ≤ c ∧ c ≤ K) → 0 ≤ K → K + T.length ≤ 999 → ∀ c ∈ incs o T, 0 ≤ c ∧ c ≤ K + T.length
  | [], o, K, _, h, _, _ => by simpa [incs] using h
  | t :: r, o, K, hT, h, h0, hK => by
    obtain ⟨k, rfl, hk⟩ := hT t (List.mem_cons_self ..)
    simp only [List.length_cons] at hK
    have hg : o.getD k 0 ∈ o := by
      rw [List.getD_eq_getElem?_getD, List.getElem?_eq_getElem hk, Option.getD_some]
      exact List.getElem_mem hk
    have hgb := h _ hg
    have hw : w64 (o.getD k 0 + 1) = o.getD k 0 + 1 := w64_id (by omega) (by omega)
    intro c hc
    simp only [incs, Int.toNat_natCast, hw] at hc
    have := incs_bound r (o.set k (o.getD k 0 + 1)) (K + 1) (fun t ht => by simpa using hT t (List.mem_cons_of_mem _ ht)) (fun c hc => by
      rcases List.mem_or_eq_of_mem_set hc with hc | rfl
      · have := h c hc; omega
      · omega) (by omega) (by omega) c hc
    simp only [List.length_cons]
    omega

theorem w64sum_sumC : ∀ (l : List Int) (a : Int), w64 a = a → l.foldl (fun n x => w64 (n + x)) a = w64 (a + sumC (fun _ => 1) l 0)
  | [], a, h => by simp [sumC, h]
  | x :: l, a, h => by
    simp only [List.foldl_cons, sumC]
    rw [w64sum_sumC l _ (w64_w64 _), w64_add']
    have : ∀ (l : List Int) (i j : Nat), sumC (fun _ => 1) l i = sumC (fun _ => 1) l j := by
      intro l
      induction l with
      | nil => intro i j; rfl
      | cons x l ih => intro i j; simp only [sumC]; rw [ih (i + 1) (j + 1)]
    rw [this l 0 (0 + 1)]
    congr 1; omega
theorem sumT_one : ∀ T : List Int, sumT (fun _ => 1) T = T.length
  | [] => rfl
  | t :: r => by simp only [sumT, sumT_one r, List.length_cons]; omega
theorem sumC_one (l : List Int) : ∀ i, sumC (fun _ => 1) l i = l.foldl (· + ·) 0 := by
  induction l with
  | nil => intro i; rfl
  | cons x l ih => intro i; simp only [sumC, ih, List.foldl_cons]; rw [foldl_add l (0 + x)]; omega
theorem w64_0 : w64 0 = 0 := by decide
theorem w64sum_eq (l : List Int) : w64sum l = w64 (l.foldl (· + ·) 0) := by
  rw [w64sum, w64sum_sumC l 0 w64_0, sumC_one]; simp

/-! the plane, number by number -/
def fW (Z : List (List Int × Int)) (k t : Nat) : Int := match Z[t]? with | some z => z.2 * z.1.getD k 0 | none => 0
def fB (Z : List (List Int × Int)) (t : Nat) : Int := match Z[t]? with | some z => -z.2 | none => 0

theorem getD_zipWith {f : Int → Int → Int} : ∀ {a b : List Int} {k : Nat}, a.length = b.length → k < b.length → (List.zipWith f a b).getD k 0 = f (a.getD k 0) (b.getD k 0)
  | [], [], k, _, h => by simp at h
  | x :: a, y :: b, 0, _, _ => rfl
  | x :: a, y :: b, k + 1, h, hk => by
    simp only [List.zipWith_cons_cons, List.getD_cons_succ]
    exact getD_zipWith (by simpa using h) (by simpa using hk)
  | [], _ :: _, k, h, _ => by simp at h
  | _ :: _, [], k, h, _ => by simp at h

theorem row_mod (Z : List (List Int × Int)) {d k : Nat} (hd : ∀ z ∈ Z, z.1.length = d) (hk : k < d) : ∀ (zs : List (List Int × Int)) (i : Nat) (p q : Pl) (ps : List Pl) (tr : List Int), Z.drop i = zs → p.1.length = d → row zs i p = some (q, ps, tr) →
    w64 (q.1.getD k 0) = w64 (p.1.getD k 0 + sumT (fW Z k) tr) ∧ w64 q.2 = w64 (p.2 + sumT (fB Z) tr)
  | [], i, p, q, ps, tr, hz, hp, h => by
    simp only [row, Option.some.injEq, Prod.mk.injEq] at h
    obtain ⟨rfl, _, rfl⟩ := h
    simp [sumT]
  | z :: r, i, p, q, ps, tr, hz, hp, h => by
    obtain ⟨hx, hr, hlt⟩ := drop_cons hz
    have hzd := hd z (List.mem_of_getElem? hx)
    have hn := stepP_len (l := z.2) (hp.trans hzd.symm)
    unfold row at h
    split at h
    · split at h
      · rename_i q' ps' tr' h1
        obtain ⟨g1, g2⟩ := row_mod Z hd hk r (i + 1) (stepP p z.1 z.2).1 q' ps' tr' hr (hn.trans hzd) h1
        split at h
        · rename_i hc
          simp only [Option.some.injEq, Prod.mk.injEq] at h
          obtain ⟨rfl, _, rfl⟩ := h
          have e : (stepP p z.1 z.2).1 = (List.zipWith (fun w n => w64 (w + w64 (z.2 * n))) p.1 z.1, w64 (p.2 - z.2)) := by
            unfold stepP at hc ⊢
            split at hc
            · cases hc
            · rename_i hs; simp [hs]
          rw [e] at g1 g2
          have hkz : k < z.1.length := by omega
          simp only [getD_zipWith (f := fun w n => w64 (w + w64 (z.2 * n))) (hp.trans hzd.symm) hkz] at g1
          simp only [sumT, Int.toNat_natCast, fW, fB, hx]
          refine ⟨?_, ?_⟩
          · rw [g1, w64_add', Int.add_right_comm, w64_add]
            congr 1
            show p.1.getD k 0 + sumT (fW Z k) tr' + z.2 * z.1.getD k 0 = p.1.getD k 0 + (z.2 * z.1.getD k 0 + sumT (fW Z k) tr')
            omega
          · rw [g2]
            simp only
            rw [w64_add']
            congr 1
            show p.2 - z.2 + sumT (fB Z) tr' = p.2 + (-z.2 + sumT (fB Z) tr')
            omega
        · rename_i hc
          simp only [Option.some.injEq, Prod.mk.injEq] at h
          obtain ⟨rfl, _, rfl⟩ := h
          rw [stepP_same (by simpa using hc)] at g1 g2
          exact ⟨g1, g2⟩
      · cases h
    · cases h

theorem rnds_mod (Z : List (List Int × Int)) {d k : Nat} (hd : ∀ z ∈ Z, z.1.length = d) (hk : k < d) : ∀ (n : Nat) (p q : Pl) (ps : List Pl) (tr ms : List Int), p.1.length = d → rnds Z n p = some (q, ps, tr, ms) →
    w64 (q.1.getD k 0) = w64 (p.1.getD k 0 + sumT (fW Z k) tr) ∧ w64 q.2 = w64 (p.2 + sumT (fB Z) tr)
  | 0, p, q, ps, tr, ms, hp, h => by
    simp only [rnds, Option.some.injEq, Prod.mk.injEq] at h
    obtain ⟨rfl, _, rfl, _⟩ := h
    simp [sumT]
  | n + 1, p, q, ps, tr, ms, hp, h => by
    unfold rnds at h
    split at h
    · cases h
    · rename_i q1 ps1 tr1 h1
      obtain ⟨g1, g2⟩ := row_mod Z hd hk Z 0 p q1 ps1 tr1 rfl hp h1
      split at h
      · simp only [Option.some.injEq, Prod.mk.injEq] at h
        obtain ⟨rfl, _, rfl, _⟩ := h
        exact ⟨g1, g2⟩
      · split at h
        · cases h
        · rename_i q2 ps2 tr2 ms2 h2
          simp only [Option.some.injEq, Prod.mk.injEq] at h
          obtain ⟨rfl, _, rfl, _⟩ := h
          obtain ⟨g3, g4⟩ := rnds_mod Z hd hk n q1 q2 ps2 tr2 ms2 (row_end hd hp h1) h2
          refine ⟨?_, ?_⟩
          · rw [g3, ← w64_add', g1, w64_add', sumT_app]; congr 1; omega
          · rw [g4, ← w64_add', g2, w64_add', sumT_app]; congr 1; omega

theorem pc_mod (Z : List (List Int × Int)) (counts : List Int) {d k : Nat} (hd : ∀ z ∈ Z, z.1.length = d) (hk : k < d) (hc : counts.length = Z.length) : ∀ (r : List Zc) (i : Nat) (p : Pl), (Z.zip counts).drop i = r → i ≤ Z.length → p.1.length = d →
    w64 ((r.foldl pcStep p).1.getD k 0) = w64 (p.1.getD k 0 + sumC (fW Z k) (counts.drop i) i) ∧ w64 (r.foldl pcStep p).2 = w64 (p.2 + sumC (fB Z) (counts.drop i) i)
  | [], i, p, hr, hi, hp => by
    have hl : (Z.zip counts).length = Z.length := by rw [List.length_zip, hc]; simp
    have := drop_nil hr (by omega)
    have : counts.drop i = [] := List.drop_eq_nil_of_le (by omega)
    simp [this, sumC]
  | z :: r, i, p, hr, hi, hp => by
    obtain ⟨hz, hr', hlt⟩ := drop_cons hr
    obtain ⟨⟨x, l⟩, n⟩ := z
    obtain ⟨hx, hn⟩ := List.getElem?_zip_eq_some.1 hz
    have hzd := hd (x, l) (List.mem_of_getElem? hx)
    have hlt' := (List.getElem?_eq_some_iff.1 hx).1
    have hcd : counts.drop i = n :: counts.drop (i + 1) := by
      have h1 := (List.getElem?_eq_some_iff.1 hn)
      obtain ⟨h2, h3⟩ := h1
      rw [List.drop_eq_getElem_cons h2, h3]
    obtain ⟨g1, g2⟩ := pc_mod Z counts hd hk hc r (i + 1) (pcStep p ((x, l), n)) hr' (by omega) ((pcStep_len (hp.trans hzd.symm)).trans hzd)
    have hx' : Z[i]? = some (x, l) := hx
    simp only [List.foldl_cons, hcd, sumC]
    have e1 : (pcStep p ((x, l), n)).1.getD k 0 = w64 (p.1.getD k 0 + w64 (w64 (l * n) * x.getD k 0)) := by
      simp only [pcStep]
      exact getD_zipWith (hp.trans hzd.symm) (by have : x.length = d := hzd; omega)
    refine ⟨?_, ?_⟩
    · rw [g1, e1, w64_add', w64_mul, Int.add_right_comm, w64_add]
      simp only [fW, hx']
      congr 1
      rw [show l * n * x.getD k 0 = n * (l * x.getD k 0) by rw [Int.mul_comm l n, Int.mul_assoc]]
      show p.1.getD k 0 + sumC (fW Z k) (counts.drop (i + 1)) (i + 1) + n * (l * x.getD k 0) = _
      unfold fW
      omega
    · rw [g2]
      simp only [pcStep, fB, hx']
      rw [w64_sub', w64_add', Int.mul_neg, Int.mul_comm l n]
      congr 1
      show p.2 - n * l + sumC (fB Z) (counts.drop (i + 1)) (i + 1) = _
      unfold fB
      omega

def fixP (p : Pl) : Prop := (∀ w ∈ p.1, w64 w = w) ∧ w64 p.2 = p.2
theorem mem_zipWith {f : Int → Int → Int} : ∀ {a b : List Int} {w : Int}, w ∈ List.zipWith f a b → ∃ x y, w = f x y
  | [], b, w, h => by simp at h
  | x :: a, [], w, h => by simp at h
  | x :: a, y :: b, w, h => by
    rw [List.zipWith_cons_cons] at h
    rcases List.mem_cons.1 h with rfl | h
    · exact ⟨x, y, rfl⟩
    · exact mem_zipWith h
theorem fix_pc : ∀ (r : List Zc) (p : Pl), fixP p → fixP (r.foldl pcStep p)
  | [], p, h => h
  | z :: r, p, h => by
    refine fix_pc r _ ⟨fun w hw => ?_, w64_w64 _⟩
    obtain ⟨x, y, rfl⟩ := mem_zipWith hw
    exact w64_w64 _
theorem fix_plane {p : Pl} (h : isPlane p = true) : fixP p := by
  simp only [isPlane, Bool.and_eq_true, within_iff, allIn, List.all_eq_true] at h
  exact ⟨fun w hw => by have := h.1.2 w hw; exact w64_id (by omega) (by omega), w64_id (by omega) (by omega)⟩

theorem plane_ext {p q : Pl} {d : Nat} (hp : p.1.length = d) (hq : q.1.length = d) (fp : fixP p) (fq : fixP q) (h1 : ∀ k < d, w64 (p.1.getD k 0) = w64 (q.1.getD k 0)) (h2 : w64 p.2 = w64 q.2) : p = q := by
  obtain ⟨p1, p2⟩ := p
  obtain ⟨q1, q2⟩ := q
  have e2 : p2 = q2 := by have a := fp.2; have b := fq.2; simp only at a b h2; rw [← a, ← b, h2]
  have e1 : p1 = q1 := by
    apply List.ext_getElem (by simp only at hp hq; omega)
    intro k g1 g2
    have a := fp.1 (p1[k]) (List.getElem_mem g1)
    have b := fq.1 (q1[k]) (List.getElem_mem g2)
    have c := h1 k (by simp only at hp; omega)
    simp only [List.getD_eq_getElem?_getD, List.getElem?_eq_getElem g1, List.getElem?_eq_getElem g2, Option.getD_some] at c
    rw [← a, ← b, c]
  rw [e1, e2]

/-- the counts of a run tell its plane -/
theorem told_plane {s : Smp} {rounds : Int} {P : List Pl} {T M : List Int} (h : runN s rounds = some (P, T, M)) : planeOf s (incs (List.replicate s.1.length 0) T) = (lastD P, true) := by
  obtain ⟨g1, g2, g3, g4, q, ps, hP, hr, R⟩ := runN_ran h
  obtain ⟨l1, l2, l3, l4⟩ := ran_len h
  have H := runs_of g1 g2
  have hz := zip_len H
  have hT := ran_trace h
  have hlast : lastD P = q := by
    obtain ⟨pre, hpre⟩ := R.last []
    rw [hP]
    have : p0 s :: ps = pre ++ [q] := by simpa using hpre
    rw [this, lastD]
    simp
  have hq : isPlane q = true := R.end_ (p0_plane g1 g2)
  have hcl : (incs (List.replicate s.1.length 0) T).length = s.1.length := by rw [incs_len]; simp
  have hb := incs_bound T (List.replicate s.1.length 0) 0 (fun t ht => by simpa using hT t ht) (fun c hc => by have := List.eq_of_mem_replicate hc; omega) (by omega) (by omega)
  have hin : allIn (incs (List.replicate s.1.length 0) T) 0 999 = true := by
    simp only [allIn, List.all_eq_true, within_iff]
    intro c hc
    have := hb c hc
    omega
  have hpc : pc s (incs (List.replicate s.1.length 0) T) = q := by
    have hd := zip_d H
    have hlen : ∀ z ∈ (s.1.zip s.2).zip (incs (List.replicate s.1.length 0) T), z.1.1.length = (s.1.headD []).length := fun z hz => hd _ (List.of_mem_zip hz).1
    refine plane_ext (foldl_pc_len _ _ hlen (by simp [p0])) R.endl (fix_pc _ _ (fix_plane (p0_plane g1 g2))) (fix_plane hq) (fun k hk => ?_) ?_
    · have e1 := (pc_mod (s.1.zip s.2) (incs (List.replicate s.1.length 0) T) hd hk (by rw [hcl, hz]) _ 0 (p0 s) rfl (Nat.zero_le _) (by simp [p0])).1
      have e2 := (rnds_mod (s.1.zip s.2) hd hk _ _ _ _ _ _ (by simp [p0]) hr).1
      have e3 := sumC_incs (fW (s.1.zip s.2) k) T (List.replicate s.1.length 0) (fun t ht => by simpa using hT t ht)
      rw [sumC_zero, Int.zero_add] at e3
      simp only [List.drop_zero] at e1
      rw [show w64 ((pc s (incs (List.replicate s.1.length 0) T)).1.getD k 0) = _ from e1, ← w64_add, e3, w64_add, e2]
    · have hk : 0 < (s.1.headD []).length := by have := (isPlane_len (p0_plane g1 g2)).1; simp only [p0, List.length_replicate] at this; omega
      have e1 := (pc_mod (s.1.zip s.2) (incs (List.replicate s.1.length 0) T) hd hk (by rw [hcl, hz]) _ 0 (p0 s) rfl (Nat.zero_le _) (by simp [p0])).2
      have e2 := (rnds_mod (s.1.zip s.2) hd hk _ _ _ _ _ _ (by simp [p0]) hr).2
      have e3 := sumC_incs (fB (s.1.zip s.2)) T (List.replicate s.1.length 0) (fun t ht => by simpa using hT t ht)
      rw [sumC_zero, Int.zero_add] at e3
      simp only [List.drop_zero] at e1
      rw [show w64 (pc s (incs (List.replicate s.1.length 0) T)).2 = _ from e1, ← w64_add, e3, w64_add, e2]
  have hne : (s.1.length == 0) = false := by
    rw [beq_eq_false_iff_ne]
    intro h
    exact g2 (List.eq_nil_of_length_eq_zero h)
  simp only [planeOf, g1, hne, hcl, hin, hpc, hq, hlast, beq_self_eq_true, Bool.not_false, Bool.and_self, if_true]

theorem told_sum {s : Smp} {rounds : Int} {P : List Pl} {T M : List Int} (h : runN s rounds = some (P, T, M)) : w64sum (incs (List.replicate s.1.length 0) T) = T.length ∧ w64sum M = T.length := by
  obtain ⟨g1, g2, g3, g4, q, ps, hP, hr, R⟩ := runN_ran h
  obtain ⟨l1, l2, l3, l4⟩ := ran_len h
  have hT := ran_trace h
  refine ⟨?_, ?_⟩
  · have e3 := sumC_incs (fun _ => 1) T (List.replicate s.1.length 0) (fun t ht => by simpa using hT t ht)
    rw [sumC_zero, Int.zero_add, sumT_one, sumC_one] at e3
    rw [w64sum_eq, e3, w64_id (by omega) (by omega)]
  · rw [w64sum_eq, R.sum, w64_id (by omega) (by omega)]
end Go.Abs
