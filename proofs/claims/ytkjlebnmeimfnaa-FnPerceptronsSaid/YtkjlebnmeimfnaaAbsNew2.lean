import Derived.Test.YtkjlebnmeimfnaaAbsNew
namespace Go.Abs

section
variable {P : Program} {o : Oper} {a : Act} {w : World} {own : Nat → Own} {obl : Obs} {rd : Nat → T} {ob : Nat → Option Ob} {ch : Ch} {e : Eff}

/-- a new row of trees, as a slice that is owned, or as a tree -/
theorem new_row (H : HR w own obl) (hob : ∀ s o', ob s = some o' → lk obl s = o') {w1 : World} {ty n len : Nat} {es : List (List V)} {cells : Array Value} {d : Nat}
    (hw : w1.heap = w.heap) (hos : w1.os = w.os) (htape : w1.tape = w.tape) (hout : w1.output = w.output)
    (hlen : ∀ e ∈ es, e.length = n) (hel : es.length = len) (hcl : cells.size = len * n) (hlm : len ≤ maxLen)
    (hrep : ∀ i e j x, es[i]? = some e → e[j]? = some x → ∃ u, cells[i * n + j]? = some u ∧ RepI w (frOf own) x u)
    (hrun : (execOp a.eval o).run P w = .ok (.value (.slice (some ⟨w.heap.size, 0, none⟩) len len)) (w1.alloc (.cells cells ty)))
    (he : (match ch with
            | .tree => ret (.one (.arr n es))
            | _ => match newOb ob d ⟨ty, n, true, es⟩ with
              | some (v, wo) => some (⟨.one (.ref d v), wo, e.obs⟩ : Eff)
              | none => none) = some e) : Out P o a w own obl e := by
  have hroom : es.length * n ≤ cells.size := by rw [hel, hcl]; exact Nat.le_refl _
  have hnewc : (w1.alloc (.cells cells ty)).heap[w.heap.size]? = some (.cells cells ty (0, 0)) := by
    have := heap_alloc_new w1 (.cells cells ty)
    rwa [hw] at this
  have hsz : (w1.alloc (.cells cells ty)).heap.size = w.heap.size + 1 := by
    show (w1.heap.push _).size = _
    rw [hw]; simp
  have hbsz : bsz (w1.alloc (.cells cells ty)) w.heap.size = len * n := by simp [bsz, hnewc, hcl]
  have hold : ∀ b, b < w.heap.size → (w1.alloc (.cells cells ty)).heap[b]? = w.heap[b]? := fun b hb => by
    rw [heap_alloc_old w1 _ b (by rw [hw]; exact hb), hw]
  split at he
  · injection he with he; subst he
    have T : Trans w own obl (w1.alloc (.cells cells ty)) own obl := by
      refine ⟨fun ad v h1 h2 => ⟨h1, by rw [World.cell?_of_block (hold _ (cell_lt h2))]; exact h2⟩, fun s => ⟨Nat.le_refl _, fun c' h => ⟨c', h, rfl, rfl, fun b hb => ⟨hb, ?_⟩⟩⟩⟩
      have hb' : b < w.heap.size := by
        rcases Nat.lt_or_ge b w.heap.size with h1 | h1
        · exact h1
        · have := H.fresh b h1; rw [hb] at this; cases this
      simp [bsz, hold b hb']
    refine ⟨_, _, own, .inl hrun, T, ⟨fun s v c h => ?_, fun b hb => H.fresh b (by rw [hsz] at hb; omega)⟩, ⟨hos, htape, hout, by rw [hsz]; omega, fun b hb _ => hold b hb, fun b _ h => h, fun b => Iff.rfl⟩, ?_⟩
    · rcases H.blk s v c h with hemp | ⟨b, cells', B⟩
      · exact .inl hemp
      right
      have hb' : b < w.heap.size := (Array.getElem?_eq_some_iff.1 B.heap).1
      exact ⟨b, cells', B.owned, B.only, by rw [hold b hb']; exact B.heap, B.len, B.room, fun i e j x hi hx => by
        obtain ⟨u, hu, hr⟩ := B.rep i e j x hi hx
        exact ⟨u, hu, hr.trans T⟩⟩
    · show RepI _ _ _ _
      rw [← hel]
      refine .arr n es _ _ (fun i j => cells.getD (i * n + j) undef) (by rw [hel]; exact hlm) (Nat.le_refl _) hlen (fun i e j x hi hx => ?_) fun _ => ⟨_, rfl, fun i e j x hi hx => ⟨H.fresh _ (Nat.le_refl _), ?_⟩⟩
      · obtain ⟨u, hu, hr⟩ := hrep i e j x hi hx
        have : cells.getD (i * n + j) undef = u := by simp [hu]
        rw [this]
        exact hr.trans T
      · obtain ⟨u, hu, hr⟩ := hrep i e j x hi hx
        have : cells.getD (i * n + j) undef = u := by simp [hu]
        rw [this, add_mid]
        simp only [World.cell?, hnewc]
        simpa using hu
  · split at he
    · rename_i v wo hn
      injection he with he
      rw [← he]
      obtain ⟨rfl, rfl⟩ := newOb_spec hob hn
      obtain ⟨T, H', K⟩ := new_site H (w1 := w1) d ⟨ty, n, true, es⟩ cells hw hos htape hout hlen hroom hrep
      refine ⟨_, _, _, .inl hrun, T, H', K, ?_⟩
      have := new_ref (obl := obl) (s := d) (v := (lk obl d).ver + 1) (n := w.heap.size) (cap := len) (c := ⟨ty, n, true, es⟩) (w' := w1.alloc (.cells cells ty)) (own' := give own w.heap.size d) (give_new _ _ _) hbsz (by rw [← hel]; exact Nat.le_refl _) hlm
      simp only [hel] at this
      exact this
    · cases he

theorem out_buildSlice (H : HR w own obl) (hR : ∀ t, RepT (RepV w own obl) (rd t) (a.tmps.getD t undef)) (hob : ∀ s o', ob s = some o' → lk obl s = o') {t : TypeId} {len : Nat} {parts : Array (Nat × Operand)} (ho : o.op = .buildSlice t len parts) {d : Nat}
    (he : (match elemT P t with
    | some e => match (zeroT P e).bind T.cells, sizeT P e, partsV rd parts.toList with
      | some z, some n, some ps => match fillV (fun i => some (i * n, n)) (List.replicate len z).flatten ps with
        | some cs => match Nat.beq z.length n && Nat.ble (len * n) 16777216 && Nat.ble 1 n && treeCells cs && Nat.beq cs.length (len * n) with
          | true => match ch with
            | .tree => ret (.one (.arr n (chunk n len cs)))
            | _ => match newOb ob d ⟨e, n, true, chunk n len cs⟩ with
              | some (v, wo) => some ⟨.one (.ref d v), wo, []⟩
              | none => none
          | false => none
        | none => none
      | _, _, _ => none
    | none => none) = some e) : Out P o a w own obl e := by
  split at he
  · rename_i el hel
    split at he
    · rename_i z n ps hz hn hps
      split at he
      · rename_i cs hf
        split at he
        · rename_i hc
          simp only [Bool.and_eq_true, Nat.beq_eq, Nat.ble_eq] at hc
          obtain ⟨⟨⟨⟨hzl, hsm⟩, hn1⟩, htr⟩, hcl⟩ := hc
          obtain ⟨i, zv, hi, hzv, hr, _⟩ := zero_spec (w := w) (own := own) (obl := obl) hz
          have hu := under_elem hel
          have hin : i.size = n := by
            unfold sizeT at hn; rw [hi] at hn; simpa using hn
          have hzvl : zv.cells.toList.length = n := by rw [hr.length, hzl]
          obtain ⟨us', h1, h2⟩ := fillV_run hf (hr.flatten_replicate len) (partsV_spec hR hps)
          have hul : us'.length = len * n := by rw [h2.length, hcl]
          have hcells : (List.replicate len zv.cells.toList).flatten.toArray = (Array.range (len * n)).map (zv.cells[· % zv.cells.size]!) := by
            have := periodic zv.cells.toList len (by omega)
            rw [hzvl] at this
            rw [← this]
          rw [hcells] at h1
          have hobs : e.obs = [] := by
            split at he
            · injection he with he; subst he; rfl
            · split at he
              · injection he with he; subst he; rfl
              · cases he
          refine new_row (ch := ch) (d := d) (w1 := w) (ty := el) (n := n) (len := len) (es := chunk n len cs) (cells := us'.toArray) H hob rfl rfl rfl rfl ?_ (chunk_len _ _ _) (by simpa using hul) ?_ ?_ ?_ (by rw [hobs]; exact he)
          · intro ee hee
            obtain ⟨k, hk⟩ := List.getElem?_of_mem hee
            exact (chunk_get n len cs k ee (by rw [hcl]) hk).1
          · have : len ≤ len * n := Nat.le_mul_of_pos_right _ hn1
            simp only [maxLen]; omega
          · intro k ee j x hk hx
            have := (chunk_get n len cs k ee (by rw [hcl]) hk).2 j x hx
            obtain ⟨u, hu1, hu2⟩ := h2.get _ x this
            exact ⟨u, by simpa using hu1, RepV.toI (treeCells_get htr x (List.mem_of_getElem? this)) hu2⟩
          · simp only [execOp, ho]
            by_cases hl0 : len = 0
            · subst hl0
              have hu0 : us' = [] := List.eq_nil_of_length_eq_zero (by simpa using hul)
              subst hu0
              have h1' : Instr.fill (fun i => some (i * n, n)) #[] (parts.map fun (i, x) => (i, a.eval x)).toList = some #[] := by
                have hr0 : Array.range 0 = #[] := rfl
                simpa [hr0] using h1
              have h1'' : Instr.fill (fun i => some (i * n, n)) #[] (List.map (fun x => (x.fst, a.eval x.snd)) parts.toList) = some #[] := by simpa using h1'
              have hr0 : Array.range 0 = #[] := rfl
              simp [Instr.buildSlice, run_underlying hu, run_sizeOf hn, hr0, h1'', newRow]
            · have := run_buildSlice (P := P) w t el len (parts.map fun (i, x) => (i, a.eval x)) us'.toArray i zv hu hi hzv (by rw [hin]; simp; omega) (by rw [hin]; intro h; rcases Nat.mul_eq_zero.1 h with h | h <;> omega) (by rw [hin]; simpa using h1)
              simp [this]
        · cases he
      · cases he
    · cases he
  · cases he

theorem wrap_small {n : Int} (h0 : 0 ≤ n) (h1 : n ≤ 140737488355328) : IntKind.i64.wrap n = n := by
  have e1 : (2 : Int) ^ IntKind.i64.bits = 18446744073709551616 := by decide
  have e2 : (2 : Int) ^ (IntKind.i64.bits - 1) = 9223372036854775808 := by decide
  have e3 : IntKind.i64.signed = true := rfl
  unfold IntKind.wrap
  simp only [e1, e2, e3, Bool.true_and]
  have hm : n % 18446744073709551616 = n := by omega
  rw [hm]
  rw [if_neg (by simp; omega)]

theorem out_makeSlice (H : HR w own obl) (hR : ∀ t, RepT (RepV w own obl) (rd t) (a.tmps.getD t undef)) (hob : ∀ s o', ob s = some o' → lk obl s = o') {t : TypeId} {l c : Operand} (ho : o.op = .makeSlice t l c) {d : Nat}
    (he : (match elemT P t with
    | some e => match (zeroT P e).bind T.cells, P.info? e, rdO rd l, rdO rd c with
      | some z, some i, some (.one (.int .i64 n)), some (.one (.int .i64 m)) => match treeCells z && Nat.ble 1 z.length && Nat.beq z.length i.size && Nat.ble 1 i.bytes with
        | false => none
        | true => match newOb ob d ⟨e, z.length, true, List.replicate n.toNat z⟩ with
        | some (v, wo) => some (⟨.one (.ref d v), wo, [0 ≤ n, n * i.bytes ≤ 140737488355328, m = n]⟩ : Eff)
        | none => none
      | _, _, _, _ => none
    | none => none) = some e) (hp : ∀ p ∈ e.obs, p) : Out P o a w own obl e := by
  split at he
  · rename_i el hel
    split at he
    · rename_i z i n m hz hi hl hc
      split at he
      · cases he
      · rename_i hck
        simp only [Bool.and_eq_true, Nat.beq_eq, Nat.ble_eq] at hck
        obtain ⟨⟨⟨htr, hz1⟩, hzs⟩, hby⟩ := hck
        obtain ⟨i', zv, hi', hzv, hr, _⟩ := zero_spec (w := w) (own := own) (obl := obl) hz
        have : i' = i := by rw [hi] at hi'; injection hi' with h; exact h.symm
        subst this
        have hu := under_elem hel
        have hzvl : zv.cells.toList.length = z.length := hr.length
        split at he
        · rename_i v wo hn
          have hobs : e.obs = [0 ≤ n, n * i'.bytes ≤ 140737488355328, m = n] := by injection he with he; subst he; rfl
          have h0 : 0 ≤ n := hp _ (by rw [hobs]; simp)
          have h1 : n * i'.bytes ≤ 140737488355328 := hp _ (by rw [hobs]; simp)
          have h2 : m = n := hp _ (by rw [hobs]; simp)
          have hb1 : (1 : Int) ≤ i'.bytes := by omega
          have hn1 : n ≤ n * i'.bytes := by
            have := Int.mul_le_mul_of_nonneg_left hb1 h0
            omega
          have hsmall : n ≤ 140737488355328 := by omega
          have hfl := hr.flatten_replicate n.toNat
          have hpd := periodic zv.cells.toList n.toNat (by omega)
          refine new_row (ch := .std) (d := d) (w1 := w) (ty := el) (n := z.length) (len := n.toNat) (es := List.replicate n.toNat z) (cells := (List.replicate n.toNat zv.cells.toList).flatten.toArray) H hob rfl rfl rfl rfl ?_ (by simp) ?_ ?_ ?_ ?_ (by rw [hobs, hn]; exact he)
          · intro ee hee; rw [List.eq_of_mem_replicate hee]
          · rw [List.size_toArray, List.length_flatten]; simp [← hzvl]
          · simp only [maxLen]; omega
          · intro k ee j x hk hx
            have hkl : k < n.toNat := by
              have := (List.getElem?_eq_some_iff.1 hk).1
              simpa using this
            have hee : ee = z := by
              have := List.mem_of_getElem? hk
              exact List.eq_of_mem_replicate this
            subst hee
            obtain ⟨u, hu1, hu2⟩ := hr.get j x hx
            refine ⟨u, ?_, RepV.toI (treeCells_get htr x (List.mem_of_getElem? hx)) hu2⟩
            have hj : j < ee.length := (List.getElem?_eq_some_iff.1 hx).1
            have key : ∀ (q k : Nat), k < q → (List.replicate q zv.cells.toList).flatten[k * ee.length + j]? = zv.cells.toList[j]? := by
              intro q
              induction q with
              | zero => intro k hk; omega
              | succ q ih =>
                intro k hk
                rw [List.replicate_succ, List.flatten_cons]
                cases k with
                | zero => rw [Nat.zero_mul, Nat.zero_add, List.getElem?_append_left (by omega)]
                | succ k =>
                  rw [List.getElem?_append_right (by rw [Nat.add_mul]; omega), hzvl, show (k + 1) * ee.length + j - ee.length = k * ee.length + j by rw [Nat.add_mul]; omega]
                  exact ih k (by omega)
            rw [List.getElem?_toArray, key n.toNat k hkl]
            exact hu1
          · have hle := rep_int (obl := obl) (rdO_rep hR hl)
            have hce := rep_int (obl := obl) (rdO_rep hR hc)
            rw [h2] at hce
            have hw' := wrap_small h0 hsmall
            have ht1 : ¬ (n < 0) := by omega
            have ht2 : ¬ ((281474976710656 : Int) < i'.bytes * n) := by rw [Int.mul_comm]; omega
            have hroom : ¬ (n.toNat * i'.bytes > roomBytes) := by
              simp only [roomBytes]
              have : ((n.toNat * i'.bytes : Nat) : Int) ≤ 140737488355328 := by
                rw [Int.natCast_mul, Int.toNat_of_nonneg h0]; exact h1
              omega
            have hcells : ((Array.range (n.toNat * i'.size)).map ((if n.toNat * i'.size = 0 then #[] else zv.cells)[· % (if n.toNat * i'.size = 0 then #[] else zv.cells).size]!)) = (List.replicate n.toNat zv.cells.toList).flatten.toArray := by
              by_cases hq : n.toNat * i'.size = 0
              · have hn0 : n.toNat = 0 := by
                  rcases Nat.mul_eq_zero.1 hq with h | h
                  · exact h
                  · omega
                have hr0 : Array.range 0 = #[] := rfl
                simp [hn0, hr0]
              · rw [if_neg hq]
                rw [hzvl, hzs] at hpd
                rw [← hpd]
            simp only [execOp, ho, hle, hce]
            simp only [Instr.makeSlice, Sem.run_bind, run_underlying hu, Result.andThen_ok, asInt, asIntOf, Sem.run_pure, typeInfo, hw']
            have hso : ∀ w, (sizeOf el).run P w = .ok i'.size w := fun w => by simp [sizeOf, typeInfo, hi]
            rw [← hcells]
            by_cases hq : n.toNat * i'.size = 0
            · have hr0 : Array.range 0 = #[] := rfl
              simp [hi, ht1, ht2, askRoom, hroom, hso, hq, newRow, hr0]
            · simp [hi, ht1, ht2, askRoom, hroom, hso, hq, newRow, zeroValue, typeInfo, hzv]
        · cases he
    · cases he
  · cases he

end
end Go.Abs
