import Derived.Test.YtkjlebnmeimfnaaAbsNew2
namespace Go.Abs

section
variable {P : Program} {o : Oper} {a : Act} {w : World} {own : Nat → Own} {obl : Obs} {rd : Nat → T} {ob : Nat → Option Ob} {ch : Ch} {e : Eff}

theorem own_lt (H : HR w own obl) {b s : Nat} (h : own b = .at s) : b < w.heap.size := by
  rcases Nat.lt_or_ge b w.heap.size with h1 | h1
  · exact h1
  · have := H.fresh b h1; rw [h] at this; cases this

theorem seg_get (us vs : List Value) (o k : Nat) (h : o + vs.length ≤ us.length) :
    (us.take o ++ vs ++ us.drop (o + vs.length))[k]? = if o ≤ k ∧ k < o + vs.length then vs[k - o]? else us[k]? := by
  by_cases hk : o ≤ k ∧ k < o + vs.length
  · rw [if_pos hk, List.append_assoc, List.getElem?_append_right (by simp; omega), List.getElem?_append_left (by simp; omega)]
    congr 1; simp; omega
  · rw [if_neg hk]
    by_cases hk1 : k < o
    · rw [List.append_assoc, List.getElem?_append_left (by simp; omega), List.getElem?_take, if_pos hk1]
    · rw [List.getElem?_append_right (by simp; omega), List.getElem?_drop]
      congr 1; simp; omega
theorem segV_get (us vs : List V) (o k : Nat) (h : o + vs.length ≤ us.length) :
    (us.take o ++ vs ++ us.drop (o + vs.length))[k]? = if o ≤ k ∧ k < o + vs.length then vs[k - o]? else us[k]? := by
  by_cases hk : o ≤ k ∧ k < o + vs.length
  · rw [if_pos hk, List.append_assoc, List.getElem?_append_right (by simp; omega), List.getElem?_append_left (by simp; omega)]
    congr 1; simp; omega
  · rw [if_neg hk]
    by_cases hk1 : k < o
    · rw [List.append_assoc, List.getElem?_append_left (by simp; omega), List.getElem?_take, if_pos hk1]
    · rw [List.getElem?_append_right (by simp; omega), List.getElem?_drop]
      congr 1; simp; omega

theorem idx_ne {i i' sz j k : Nat} (h : i' ≠ i) (hj : j < sz) (hk : k < sz) : i' * sz + j ≠ i * sz + k := by
  rcases Nat.lt_or_gt_of_ne h with h | h
  · have : (i' + 1) * sz ≤ i * sz := Nat.mul_le_mul_right _ h
    rw [Nat.add_mul] at this
    omega
  · have : (i + 1) * sz ≤ i' * sz := Nat.mul_le_mul_right _ h
    rw [Nat.add_mul] at this
    omega

theorem out_store (H : HR w own obl) (hR : ∀ t, RepT (RepV w own obl) (rd t) (a.tmps.getD t undef)) (hob : ∀ s o', ob s = some o' → lk obl s = o') {t : TypeId} {x y : Operand} (ho : o.op = .store t x y)
    (he : (match rdO rd x, rdO rd y with
    | some a, some x => effStore P ob ch t a x
    | _, _ => none) = some e) (hp : ∀ p ∈ e.obs, p) : Out P o a w own obl e := by
  split at he
  · rename_i tx ty hx hy
    have hxr := rdO_rep hR hx
    have hyr := rdO_rep hR hy
    unfold effStore at he
    split at he
    · rename_i s v i off ys n hcells hn
      split at he
      · rename_i c hl
        split at he
        · rename_i cs p hel
          split at he
          · rename_i hck
            simp only [Bool.and_eq_true, Nat.beq_eq, Nat.ble_eq] at hck
            obtain ⟨⟨hny, hle⟩, hfl⟩ := hck
            injection he with he; subst he
            have hlk := live_lk hob hl
            have hes := elemAt_spec hel hp
            obtain ⟨hyl, hone, hdef⟩ := RepT.cells hyr hcells
            obtain ⟨b, hb, hown⟩ := hxr.2.2 c hlk
            obtain ⟨b', cells, B⟩ := (H.blk s v c hlk).resolve_left fun h => by rw [h.1] at hes; simp at hes
            have hbb : b = b' := B.only b hown
            subst hbb
            have hcsl : cs.length = c.sz := B.len cs (List.mem_of_getElem? hes)
            have hil : i < c.es.length := (List.getElem?_eq_some_iff.1 hes).1
            have hysl : (a.eval y).cells.toList.length = ys.length := hyl.length
            have hroom : i * c.sz + off + ys.length ≤ cells.size := by
              have : (i + 1) * c.sz ≤ c.es.length * c.sz := Nat.mul_le_mul_right _ hil
              rw [Nat.add_mul] at this
              have := B.room
              omega
            have hrun : (execOp a.eval o).run P w = .ok .skip (w.setRow b (cells.toList.take (i * c.sz + off) ++ (a.eval y).cells.toList ++ cells.toList.drop (i * c.sz + off + ys.length)).toArray) := by
              have hst := run_storeCells_at P b (i * c.sz + off) c.ty (a.eval y).cells.toList 0 cells w B.heap (by rw [hysl]; omega) hone
              have hsz : (a.eval y).cells.size = n := by rw [← Array.length_toList, hysl, hny]
              simp only [Nat.add_zero, hysl] at hst
              simp only [execOp, ho, Instr.storeAt, hb, Instr.sureAddr, storeVar]
              simp [run_sizeOf hn, hsz, hst]
            generalize hnew : (cells.toList.take (i * c.sz + off) ++ (a.eval y).cells.toList ++ cells.toList.drop (i * c.sz + off + ys.length)).toArray = cells' at hrun
            have hnsz : cells'.size = cells.size := by
              rw [← hnew]; simp; simp at hysl; omega
            have hget : ∀ k, cells'[k]? = if i * c.sz + off ≤ k ∧ k < i * c.sz + off + ys.length then (a.eval y).cells.toList[k - (i * c.sz + off)]? else cells[k]? := by
              intro k
              rw [← hnew, List.getElem?_toArray, ← hysl, seg_get _ _ _ _ (by simp; simp at hysl; omega)]
              simp
            have hver : (lk obl s).ver = v := by rw [hlk]
            have key := site_step (w' := w.setRow b cells') (own' := own) (s := s) (ver := v) (oc := some ⟨c.ty, c.sz, c.flat, c.es.set i (cs.take off ++ ys ++ cs.drop (off + n))⟩) H rfl rfl rfl (by simp)
              (fun b' hb' hne => ⟨setRow_other w b b' cells' (fun e => hne (by rw [e]; exact hown)), rfl⟩) (fun b' t' h _ => h) (fun b' hb' => H.fresh b' (by simpa using hb')) (fun b' h => h) (by omega)
              (fun c' hc' _ => by
                injection hc' with hc'; subst hc'
                refine ⟨c, hlk, rfl, by simp, fun b' hb' => ⟨hb', ?_⟩⟩
                have : b' = b := B.only b' hb'
                subst this
                simp [bsz, setRow_heap w b' cells cells' c.ty (0, 0) B.heap, B.heap, hnsz])
              (fun c' hc' T => by
                injection hc' with hc'; subst hc'
                right
                refine ⟨b, cells', hown, B.only, setRow_heap w b cells cells' c.ty (0, 0) B.heap, fun ee hee => ?_, by simp [hnsz]; exact B.room, fun i' ee j xx hi' hxx => ?_⟩
                · rcases List.mem_or_eq_of_mem_set hee with h | h
                  · exact B.len ee h
                  · subst h; simp; omega
                · simp only at hi' ⊢
                  rw [List.getElem?_set] at hi'
                  by_cases hii : i = i'
                  · subst hii
                    rw [if_pos rfl, if_pos hil] at hi'
                    injection hi' with hi'
                    subst hi'
                    have hjl : j < c.sz := by
                      have := (List.getElem?_eq_some_iff.1 hxx).1
                      simp at this; omega
                    rw [hny] at hxx
                    rw [segV_get _ _ _ _ (by omega)] at hxx
                    rw [hget]
                    by_cases hj : off ≤ j ∧ j < off + ys.length
                    · rw [if_pos hj] at hxx
                      rw [if_pos (by omega), show i * c.sz + j - (i * c.sz + off) = j - off by omega]
                      obtain ⟨u, hu1, hu2⟩ := hyl.get _ xx hxx
                      refine ⟨u, hu1, RepC.trans T (RepC.mk hu2 fun hf => ?_)⟩
                      rw [hf] at hfl
                      exact treeCells_get hfl xx (List.mem_of_getElem? hxx)
                    · rw [if_neg hj] at hxx
                      rw [if_neg (by omega)]
                      obtain ⟨u, hu1, hu2⟩ := B.rep i cs j xx hes hxx
                      exact ⟨u, hu1, RepC.trans T hu2⟩
                  · rw [if_neg hii] at hi'
                    have hjl : j < c.sz := by
                      have h1 := (List.getElem?_eq_some_iff.1 hxx).1
                      have h2 := B.len ee (List.mem_of_getElem? hi')
                      omega
                    obtain ⟨u, hu1, hu2⟩ := B.rep i' ee j xx hi' hxx
                    refine ⟨u, ?_, RepC.trans T hu2⟩
                    rw [hget, if_neg, hu1]
                    rintro ⟨h1, h2⟩
                    have := idx_ne (i := i) (i' := i') (sz := c.sz) (j := j) (k := i' * c.sz + j - i * c.sz) (fun e => hii e.symm) hjl (by omega)
                    omega)
            obtain ⟨T, H', K⟩ := key
            exact ⟨undef, _, own, .inr ⟨hrun, rfl⟩, T, H', K, trivial⟩
          · cases he
        · cases he
      · cases he
    · cases he
  · cases he

/-! append -/
theorem src_of (H : HR w own obl) (hob : ∀ s o', ob s = some o' → lk obl s = o') {x : V} {u : Value} {n : Nat} {ys : List (List V)} (hx : RepV w own obl x u) (he : elems ob n x = some ys) (hn : 0 < n) :
    ∃ A c, u = .slice A ys.length c ∧ (0 < ys.length → ∃ ad news, A = some ad ∧ (news : List Value).length = ys.length * n ∧ (∀ j q, news[j]? = some q → w.cell? (ad.add j) = some q) ∧
      (∀ q ∈ news, q.oneCell' = true) ∧ (∀ e ∈ ys, e.length = n) ∧ ∀ i e j y, ys[i]? = some e → e[j]? = some y → ∃ q, news[i * n + j]? = some q ∧ RepI w (frOf own) y q) := by
  cases x <;> simp only [elems, reduceCtorEq] at he
  case nil =>
    injection he with he; subst he
    exact ⟨none, 0, rep_nil (obl := obl) hx, fun h => by simp at h⟩
  case arr sz xs =>
    split at he
    · rename_i hs
      have hs : sz = n := by simpa using hs
      subst hs
      injection he with he; subst he
      cases hx with
      | arr _ _ A cap val hx hc hl hr hm =>
      refine ⟨A, cap, rfl, fun h0 => ?_⟩
      obtain ⟨ad, hA, hcell⟩ := hm h0
      have hidx : ∀ k, k < xs.length * sz → ∃ e y, xs[k / sz]? = some e ∧ e[k % sz]? = some y := by
        intro k hk
        have h1 : k / sz < xs.length := (Nat.div_lt_iff_lt_mul hn).2 hk
        have h2 : k % sz < sz := Nat.mod_lt _ hn
        have h3 := hl xs[k / sz] (List.getElem_mem h1)
        exact ⟨xs[k / sz], xs[k / sz][k % sz], List.getElem?_eq_getElem h1, List.getElem?_eq_getElem (by omega)⟩
      refine ⟨ad, (List.range (xs.length * sz)).map fun k => val (k / sz) (k % sz), hA, by simp, fun j q hj => ?_, fun q hq => ?_, hl, fun i e j y hi hy => ?_⟩
      · have hjl : j < xs.length * sz := by
          have := (List.getElem?_eq_some_iff.1 hj).1
          simpa using this
        obtain ⟨e, y, h1, h2⟩ := hidx j hjl
        have := (hcell _ e _ y h1 h2).2
        simp [hjl] at hj
        rw [← hj]
        rw [show j / sz * sz + j % sz = j by rw [Nat.mul_comm]; exact Nat.div_add_mod j sz] at this
        exact this
      · simp at hq
        obtain ⟨k, hk, rfl⟩ := hq
        obtain ⟨e, y, h1, h2⟩ := hidx k hk
        exact (hr _ e _ y h1 h2).one
      · have hjs : j < sz := by
          have h1 := (List.getElem?_eq_some_iff.1 hy).1
          have h2 := hl e (List.mem_of_getElem? hi)
          omega
        have hil : i < xs.length := (List.getElem?_eq_some_iff.1 hi).1
        have hlt : i * sz + j < xs.length * sz := by
          have : (i + 1) * sz ≤ xs.length * sz := Nat.mul_le_mul_right _ hil
          rw [Nat.add_mul] at this
          omega
        refine ⟨val i j, ?_, hr i e j y hi hy⟩
        have e1 : (i * sz + j) / sz = i := by rw [Nat.mul_comm, Nat.mul_add_div hn, Nat.div_eq_of_lt hjs]; rfl
        have e2 : (i * sz + j) % sz = j := by rw [Nat.mul_comm, Nat.mul_add_mod, Nat.mod_eq_of_lt hjs]
        simp [hlt, e1, e2]
    · cases he
  case ref s v =>
    split at he
    · rename_i ty sz es hl
      split at he
      · rename_i hs
        have hs : sz = n := by simpa using hs
        subst hs
        injection he with he; subst he
        rcases hx.2.2 _ (live_lk hob hl) with ⟨hes0, rfl⟩ | ⟨b, cap, rfl, hown, hbs, hle, hmx⟩
        · simp only at hes0
          subst hes0
          exact ⟨none, 0, rfl, fun h => by simp at h⟩
        obtain ⟨b', cells, B⟩ := (H.blk s v _ (live_lk hob hl)).resolve_left fun h => h.2 b hown
        have hbb : b = b' := B.only b hown
        subst hbb
        have hroom : es.length * sz ≤ cells.size := B.room
        refine ⟨_, cap, rfl, fun h0 => ⟨⟨b, 0, none⟩, cells.toList.take (es.length * sz), rfl, by simp; omega, fun j q hj => ?_, fun q hq => ?_, B.len, fun i e j y hi hy => ?_⟩⟩
        · rw [List.getElem?_take] at hj
          split at hj
          · rw [add_mid, Nat.zero_add]
            simp only [World.cell?, B.heap]
            simpa using hj
          · cases hj
        · obtain ⟨k, hk⟩ := List.getElem?_of_mem hq
          rw [List.getElem?_take] at hk
          split at hk
          · rename_i hklt
            have hdl : k / sz < es.length := (Nat.div_lt_iff_lt_mul hn).2 hklt
            have h2 : k % sz < sz := Nat.mod_lt _ hn
            have h3 := B.len es[k / sz] (List.getElem_mem hdl)
            simp only at h3
            obtain ⟨u, hu1, hu2⟩ := B.rep (k / sz) es[k / sz] (k % sz) (es[k / sz][k % sz]'(by omega)) (List.getElem?_eq_getElem hdl) (List.getElem?_eq_getElem (by omega))
            simp only at hu1
            rw [show k / sz * sz + k % sz = k by rw [Nat.mul_comm]; exact Nat.div_add_mod k sz] at hu1
            have : u = q := by
              have hk' : cells[k]? = some q := by simpa using hk
              rw [hu1] at hk'; injection hk'
            subst this
            exact RepI.one hu2
          · cases hk
        · have hjs : j < sz := by
            have h1 := (List.getElem?_eq_some_iff.1 hy).1
            have h2 := B.len e (List.mem_of_getElem? hi)
            simp only at h2
            omega
          have hil : i < es.length := (List.getElem?_eq_some_iff.1 hi).1
          have hlt : i * sz + j < es.length * sz := by
            have : (i + 1) * sz ≤ es.length * sz := Nat.mul_le_mul_right _ hil
            rw [Nat.add_mul] at this
            omega
          obtain ⟨u, hu1, hu2⟩ := B.rep i e j y hi hy
          simp only at hu1
          refine ⟨u, ?_, hu2⟩
          rw [List.getElem?_take, if_pos hlt]
          simpa using hu1
      · cases he
    · cases he

theorem nextslice_le (m c : Nat) (h : c ≤ m) : Builtin.nextslicecap m c ≤ 2 * m + 768 := by
  unfold Builtin.nextslicecap
  split
  · omega
  · split
    · omega
    · simp only [Builtin.growBy]
      (repeat' split) <;> omega

/-- append, onto what a slice holds -/
theorem append_run (H : HR w own obl) {s : Nat} {v : Value} {es ys : List (List V)} {t ty0 ty : TypeId} {el : TypeId} {i : TypeInfo} {z : Value} (hu : P.underlying t = some (.slice el)) (hi : P.info? el = some i) (hz : i.zero = some z) (hzs : z.cells.size = i.size) (hn : 0 < i.size) (hby : 0 < i.bytes)
    (hv : (v = .slice none 0 0 ∧ es = []) ∨ ∃ b cap cells, v = .slice (some ⟨b, 0, none⟩) es.length cap ∧ BlkOK w own obl s ⟨el, i.size, true, es⟩ b cells ∧ cells.size = cap * i.size ∧ es.length ≤ cap ∧ cap ≤ maxLen)
    {A : Option Addr} {c : Nat}
    (hsrc : 0 < ys.length → ∃ ad news, A = some ad ∧ (news : List Value).length = ys.length * i.size ∧ (∀ j q, news[j]? = some q → w.cell? (ad.add j) = some q) ∧
      (∀ q ∈ news, q.oneCell' = true) ∧ (∀ e ∈ ys, e.length = i.size) ∧ ∀ k e j y, ys[k]? = some e → e[j]? = some y → ∃ q, news[k * i.size + j]? = some q ∧ RepI w (frOf own) y q)
    (hpos : v = .slice none 0 0 → 0 < ys.length) (hbytes : (es.length + ys.length) * i.bytes ≤ 140737488355328) :
    ∃ v' w' own', (Builtin.append_ #[t, t] ty #[v, .slice A ys.length c]).run P w = .ok v' w' ∧
      Trans w own obl w' own' (up obl s ⟨(lk obl s).ver + 1, some ⟨el, i.size, true, es ++ ys⟩⟩) ∧ HR w' own' (up obl s ⟨(lk obl s).ver + 1, some ⟨el, i.size, true, es ++ ys⟩⟩) ∧ Keep w own w' own' ∧
      RepV w' own' (up obl s ⟨(lk obl s).ver + 1, some ⟨el, i.size, true, es ++ ys⟩⟩) (.ref s ((lk obl s).ver + 1)) v' := by
  have hsmall : es.length + ys.length ≤ 140737488355328 := Nat.le_trans (Nat.le_mul_of_pos_right _ hby) hbytes
  -- what the slice holds, as a row of its own
  have hrow : ∃ xs, w.ownsRow 0 el i.size v es.length xs ∧ (∀ k e j y, es[k]? = some e → e[j]? = some y → ∃ q, xs[k * i.size + j]? = some q ∧ RepI w (frOf own) y q) ∧ (∀ e ∈ es, e.length = i.size) := by
    rcases hv with ⟨rfl, rfl⟩ | ⟨b, cap, cells, rfl, B, hcs, hle, hmx⟩
    · exact ⟨[], ⟨by simp, .inl ⟨rfl, rfl⟩⟩, by simp, by simp⟩
    · have hroom : es.length * i.size ≤ cells.size := B.room
      refine ⟨cells.toList.take (es.length * i.size), ⟨by simp; omega, .inr ⟨b, cap, cells, rfl, Nat.zero_le _, B.heap, hle, hmx, hcs, rfl⟩⟩, fun k e j y hk hy => ?_, B.len⟩
      have hjs : j < i.size := by
        have h1 := (List.getElem?_eq_some_iff.1 hy).1
        have h2 := B.len e (List.mem_of_getElem? hk)
        simp only at h2
        omega
      have hil : k < es.length := (List.getElem?_eq_some_iff.1 hk).1
      have hlt : k * i.size + j < es.length * i.size := by
        have : (k + 1) * i.size ≤ es.length * i.size := Nat.mul_le_mul_right _ hil
        rw [Nat.add_mul] at this
        omega
      obtain ⟨u, hu1, hu2⟩ := B.rep k e j y hk hy
      simp only at hu1
      exact ⟨u, by rw [List.getElem?_take, if_pos hlt]; simpa using hu1, hu2⟩
  obtain ⟨xs, hown, hxrep, hxlen⟩ := hrow
  -- the run
  have hrun : ∃ v' w' news, (Builtin.append_ #[t, t] ty #[v, .slice A ys.length c]).run P w = .ok v' w' ∧ w'.ownsRow 0 el i.size v' (es.length + ys.length) (xs ++ news) ∧ w.grownBy w' v.ownBlock ∧ v' ≠ .slice none 0 0 ∧
      (v'.ownBlock = v.ownBlock ∨ v'.ownBlock = some w.heap.size) ∧ (∀ e ∈ ys, e.length = i.size) ∧ ∀ k e j y, ys[k]? = some e → e[j]? = some y → ∃ q, (news : List Value)[k * i.size + j]? = some q ∧ RepI w (frOf own) y q := by
    by_cases hy0 : 0 < ys.length
    · obtain ⟨ad, news, rfl, h1, h2, h3, h4, h5⟩ := hsrc hy0
      obtain ⟨v', w', hr, ho, hg, hnil, hat⟩ := run_append_own_at (P := P) w 0 t ty el i z i.size i.bytes hu hi hz rfl rfl hzs hn v es.length xs hown ad ys.length c news h1 h2 h3 (by simp only [maxLen]; omega) hbytes (Nat.zero_le _)
      exact ⟨v', w', news, hr, ho, hg, fun h => by have := (hnil.1 h).2; omega, hat, h4, h5⟩
    · have hy : ys = [] := List.eq_nil_of_length_eq_zero (by omega)
      subst hy
      rcases hv with ⟨hv, _⟩ | ⟨b, cap, cells, rfl, B, hcs, hle, hmx⟩
      · have := hpos hv; simp at this
      · refine ⟨.slice (some ⟨b, 0, none⟩) es.length cap, w, [], ?_, by simpa using hown, ⟨rfl, rfl, rfl, Nat.le_refl _, fun _ _ _ => rfl⟩, by simp, .inl rfl, by simp, by simp⟩
        cases A <;> simp [Builtin.append_, run_underlying hu, sizeOf, typeInfo, hi, Builtin.lenOf, Builtin.firstCells, hle, loadCells, loadCellsFrom, storeCells]
  obtain ⟨v', w', news, hr, ho, hg, hne, hat, hylen, hyrep⟩ := hrun
  have hxl : xs.length = es.length * i.size := hown.1
  -- the new row's block
  rcases ho.2 with ⟨h, _⟩ | ⟨g, cap', cur, rfl, _, hheap, hle', hmx', hcs', htake⟩
  · exact absurd h hne
  have hg' : g < w'.heap.size := (Array.getElem?_eq_some_iff.1 hheap).1
  have hrep : ∀ k e j y, (es ++ ys)[k]? = some e → e[j]? = some y → ∃ q, cur[k * i.size + j]? = some q ∧ RepI w (frOf own) y q := by
    intro k e j y hk hy
    have hjs : j < i.size := by
      have h1 := (List.getElem?_eq_some_iff.1 hy).1
      have h2 : e.length = i.size := by
        rcases List.mem_append.1 (List.mem_of_getElem? hk) with h | h
        · exact hxlen e h
        · exact hylen e h
      omega
    have hkl : k < es.length + ys.length := by
      have := (List.getElem?_eq_some_iff.1 hk).1
      simpa using this
    have hlt : k * i.size + j < (es.length + ys.length) * i.size := by
      have : (k + 1) * i.size ≤ (es.length + ys.length) * i.size := Nat.mul_le_mul_right _ hkl
      rw [Nat.add_mul] at this
      omega
    have hcur : cur[k * i.size + j]? = (xs ++ news)[k * i.size + j]? := by
      rw [← htake, List.getElem?_take, if_pos hlt]; simp
    rw [hcur]
    by_cases hke : k < es.length
    · rw [List.getElem?_append_left hke] at hk
      obtain ⟨q, hq1, hq2⟩ := hxrep k e j y hk hy
      exact ⟨q, by rw [List.getElem?_append_left (List.getElem?_eq_some_iff.1 hq1).1]; exact hq1, hq2⟩
    · rw [List.getElem?_append_right (by omega)] at hk
      obtain ⟨q, hq1, hq2⟩ := hyrep (k - es.length) e j y hk hy
      refine ⟨q, ?_, hq2⟩
      have hge : es.length * i.size ≤ k * i.size := Nat.mul_le_mul_right _ (by omega)
      rw [List.getElem?_append_right (by omega), hxl, ← hq1]
      congr 1
      rw [Nat.sub_mul]; omega
  have hvblk : ∀ b', v.ownBlock = some b' → own b' = .at s ∧ ∀ b'', own b'' = .at s → b'' = b' := by
    intro b' hb'
    rcases hv with ⟨rfl, _⟩ | ⟨b, cap, cells, rfl, B, _⟩
    · simp [Value.ownBlock] at hb'
    · simp [Value.ownBlock] at hb'; subst hb'; exact ⟨B.owned, B.only⟩
  have hgcase : (own g = .at s ∧ v.ownBlock = some g) ∨ g = w.heap.size := by
    have hvo : (Value.slice (some ⟨g, 0, none⟩) (es.length + ys.length) cap').ownBlock = some g := rfl
    rcases hat with h | h
    · rw [hvo] at h
      exact .inl ⟨(hvblk g h.symm).1, h.symm⟩
    · rw [hvo] at h
      injection h with h
      exact .inr h
  have hother : ∀ b', b' < w.heap.size → own b' ≠ .at s → w'.heap[b']? = w.heap[b']? := fun b' hb' hne' =>
    hg.block b' hb' (fun h => hne' (hvblk b' h.symm).1)
  let own' : Nat → Own := if g = w.heap.size then give own g s else own
  have hown'g : own' g = .at s := by
    rcases hgcase with ⟨h, _⟩ | h
    · simp only [own']
      split
      · exact give_new _ _ _
      · exact h
    · simp only [own', h, if_true]; exact give_new _ _ _
  have key := site_step (w' := w') (own' := own') (s := s) (ver := (lk obl s).ver + 1) (oc := some ⟨el, i.size, true, es ++ ys⟩) H hg.os hg.tape hg.output hg.size
    (fun b' hb' hne' => ⟨hother b' hb' hne', by
      simp only [own']
      split
      · rename_i hgs; exact give_old (by omega) hne'
      · rfl⟩)
    (fun b' t' h ht => by
      simp only [own'] at h
      split at h
      · rcases give_at h with ⟨_, h⟩ | ⟨_, _, h⟩
        · exact absurd h ht
        · exact h
      · exact h)
    (fun b' hb' => by
      have hbw : w.heap.size ≤ b' := Nat.le_trans hg.size hb'
      simp only [own']
      split
      · rename_i hgs
        rw [give_old (by omega) (by rw [H.fresh b' hbw]; intro h; cases h)]
        exact H.fresh b' hbw
      · exact H.fresh b' hbw)
    (fun b' h => by
      simp only [own'] at h
      split at h
      · exact give_outer h
      · exact h)
    (Nat.le_succ _) (fun _ _ h => absurd h (by omega))
    (fun c' hc' T => by
      injection hc' with hc'; subst hc'
      right
      refine ⟨g, cur, hown'g, fun b' hb' => ?_, hheap, fun e he => ?_, by simp; rw [hcs']; exact Nat.mul_le_mul_right _ hle', fun k e j y hk hy => ?_⟩
      · rcases hgcase with ⟨h1, h2⟩ | h
        · have hne : g ≠ w.heap.size := by have := own_lt H h1; omega
          simp only [own', if_neg hne] at hb'
          exact (hvblk g h2).2 b' hb'
        · simp only [own', if_pos h] at hb'
          rcases give_at hb' with ⟨h, _⟩ | ⟨_, h, _⟩
          · exact h
          · exact absurd rfl h
      · rcases List.mem_append.1 he with h | h
        · exact hxlen e h
        · exact hylen e h
      · obtain ⟨q, hq1, hq2⟩ := hrep k e j y hk hy
        exact ⟨q, hq1, RepI.trans T hq2⟩)
  obtain ⟨T, H', K⟩ := key
  refine ⟨_, w', own', hr, T, H', K, rfl, by rw [lk_new]; exact Nat.le_refl _, fun c' hc' => ?_⟩
  rw [lk_new] at hc'
  injection hc' with _ hc'
  injection hc' with hc'
  subst hc'
  exact .inr ⟨g, cap', by simp, hown'g, by simp [bsz, hheap, hcs'], by simpa using hle', hmx'⟩

theorem out_append (H : HR w own obl) (hob : ∀ s o', ob s = some o' → lk obl s = o') {c : Call} (ho : o.op = .call c) (hcal : c.callee = .builtin .append) {t t' : TypeId} {sv xv : V} {d : Nat}
    (hts : c.argTypes = #[t, t']) {uS uX : Value} (hargs : c.args.map a.eval = #[uS, uX]) (hS : RepV w own obl sv uS) (hX : RepV w own obl xv uX)
    (he : effAppend P ob d t t' sv xv = some e) (hp : ∀ p ∈ e.obs, p) : Out P o a w own obl e := by
  unfold effAppend at he
  split at he
  · cases he
  · rename_i el hel
    have htt : t = t' ∧ elemT P t = some el := by
      split at hel
      · rename_i hb; exact ⟨by simpa using hb, hel⟩
      · cases hel
    obtain ⟨rfl, hel'⟩ := htt
    have hu := under_elem hel'
    split at he
    · rename_i i z hi hz
      obtain ⟨i', zv, hi', hzv, hr, _⟩ := zero_spec (w := w) (own := own) (obl := obl) hz
      have : i' = i := by rw [hi] at hi'; injection hi' with h; exact h.symm
      subst this
      split at he
      · cases he
      · rename_i ys hys
        have hck : z.length = i'.size ∧ 0 < i'.size ∧ 0 < i'.bytes ∧ elems ob i'.size xv = some ys := by
          split at hys
          · rename_i hb
            simp only [Bool.and_eq_true, Nat.beq_eq, Nat.ble_eq] at hb
            exact ⟨hb.1.1, by omega, by omega, hys⟩
          · cases hys
        obtain ⟨hzl, hn, hby, hys⟩ := hck
        have hzs : zv.cells.size = i'.size := by rw [← Array.length_toList, hr.length, hzl]
        obtain ⟨A, c', rfl, hsrc⟩ := src_of H hob hX hys hn
        have hexec : ∀ v' w', (Builtin.append_ #[t, t] o.type #[uS, .slice A ys.length c']).run P w = .ok v' w' → (execOp a.eval o).run P w = .ok (.value v') w' := by
          intro v' w' h
          simp only [execOp, ho, resolve, hcal, invoke, builtin, Sem.run_bind, Sem.run_pure, Result.andThen_ok, hargs, hts, h]
        split at he
        · split at he
          · rename_i v wo hno
            injection he with he; subst he
            obtain ⟨rfl, rfl⟩ := newOb_spec hob hno
            have h0 : 0 < ys.length := hp _ (by simp)
            have h1 : ys.length * i'.bytes ≤ 140737488355328 := hp _ (by simp)
            obtain ⟨v', w', own', hrun, T, H', K, hrep⟩ := append_run (s := d) (v := uS) (es := []) (ys := ys) (ty := o.type) (ty0 := 0) H hu hi' hzv hzs hn hby (.inl ⟨rep_nil (obl := obl) hS, rfl⟩) hsrc (fun _ => h0) (by simpa using h1)
            exact ⟨v', w', own', .inl (hexec _ _ hrun), T, H', K, hrep⟩
          · cases he
        · rename_i s v
          split at he
          · rename_i ty sz es hl
            split at he
            · rename_i hc
              simp only [Bool.and_eq_true, Nat.beq_eq] at hc
              obtain ⟨rfl, rfl⟩ := hc
              injection he with he; subst he
              have h1 : (es.length + ys.length) * i'.bytes ≤ 140737488355328 := hp _ (by simp)
              have hlk := live_lk hob hl
              have hver : (lk obl s).ver = v := by rw [hlk]
              rcases hS.2.2 _ hlk with ⟨hes, hnil⟩ | hreal
              · simp only at hes
                subst hes
                by_cases hy0 : 0 < ys.length
                · obtain ⟨v', w', own', hrun, T, H', K, hrep⟩ := append_run (s := s) (v := uS) (es := []) (ys := ys) (ty := o.type) (ty0 := 0) H hu hi' hzv hzs hn hby (.inl ⟨hnil, rfl⟩) hsrc (fun _ => hy0) h1
                  rw [hver] at T H' hrep
                  exact ⟨v', w', own', .inl (hexec _ _ hrun), T, H', K, hrep⟩
                · have hy : ys = [] := List.eq_nil_of_length_eq_zero (by omega)
                  subst hy
                  obtain ⟨T, H', K, hrep⟩ := new_nil H s _ i'.size
                  rw [hver] at T H' hrep
                  refine ⟨.slice none 0 0, w, clr own s, .inl (hexec _ _ ?_), T, H', K, hrep⟩
                  rw [hnil]
                  cases A <;> simp [Builtin.append_, run_underlying hu, sizeOf, typeInfo, hi, Builtin.lenOf, Builtin.firstCells, loadCells, loadCellsFrom, storeCells]
              obtain ⟨b, cap, hb, hown, hbs, hle, hmx⟩ := hreal
              obtain ⟨b', cells, B⟩ := (H.blk s v _ hlk).resolve_left fun h => h.2 b hown
              have hver : (lk obl s).ver = v := by rw [hlk]
              have hbb : b = b' := B.only b hown
              subst hbb
              have hcs : cells.size = cap * i'.size := by
                simp only [bsz, B.heap] at hbs
                exact hbs
              have hver : (lk obl s).ver = v := by rw [hlk]
              obtain ⟨v', w', own', hrun, T, H', K, hrep⟩ := append_run (s := s) (v := uS) (es := es) (ys := ys) (ty := o.type) (ty0 := 0) H hu hi' hzv hzs hn hby (.inr ⟨b, cap, cells, hb, B, hcs, hle, hmx⟩) hsrc (fun h => by rw [hb] at h; cases h) h1
              rw [hver] at T H' hrep
              exact ⟨v', w', own', .inl (hexec _ _ hrun), T, H', K, hrep⟩
            · cases he
          · cases he
        · cases he
    · cases he

end
end Go.Abs
