import Derived.Test.YtkjlebnmeimfnaaAbsGfrz
namespace Go.Abs

/-- a walk through a piece of code: what is chosen, what is computed, and what is shown of it -/
inductive Sc (P : Program) (R : Type) : Type 1
  | ret (l m : List Nat) (r : R)
  | br (i : Nat) (v : Bool) (a b : Sc P R)
  | brc (v : Bool) (a b : Sc P R)
  | brk (v : Bool) (k : Sc P R)
  | op {X : Type} (m : Option X) (ch : X → List (Nat × Ch)) (q : X → List Prop) (ok : ∀ x, m = some x → ∀ p ∈ q x, p) (k : X → Sc P R)
  | go (k : Sc P R)
  | frz (ss : List Nat) (k : Sc P R)
  | at_ (n : Nat) (k : Sc P R)
  | sub {X : Type} (m : Option X) (c : Code) (slots sites : List Nat) (st : St) (G : X → AExit × St) (ok : ∀ x, m = some x → ExecOK P c st (G x).1 (G x).2) (k : X → Sc P R)

  | sub2 {X Y : Type} (m : Option (X ⊕ Y)) (c : Code) (slots sites : List Nat) (st : St) (G : X ⊕ Y → AExit × St) (ok : ∀ x, m = some x → ExecOK P c st (G x).1 (G x).2) (k1 : X → Sc P R) (k2 : Y → Sc P R)
  | sub3 {X Y Z : Type} (m : Option (X ⊕ Y ⊕ Z)) (c : Code) (slots sites : List Nat) (st : St) (G : X ⊕ Y ⊕ Z → AExit × St) (ok : ∀ x, m = some x → ExecOK P c st (G x).1 (G x).2) (k1 : X → Sc P R) (k2 : Y → Sc P R) (k3 : Z → Sc P R)

/-- no run -/
inductive NoRun (P : Program) (ops : Array Oper) (draw : Bool) (chs : List (Nat × Ch)) (st : St) : Prop
inductive NoFit (P : Program) (c : Code) (st : St) : Prop

variable {P : Program} {R : Type}

def den : Sc P R → Option R
  | .ret _ _ r => some r
  | .br _ v a b => match v with | true => den a | false => den b
  | .brc v a b => match v with | true => den a | false => den b
  | .brk _ k => den k
  | .op m _ _ _ k => m.bind fun x => den (k x)
  | .go k => den k
  | .frz _ k => den k
  | .at_ _ k => den k
  | .sub m _ _ _ _ _ _ k => m.bind fun x => den (k x)
  | .sub2 m _ _ _ _ _ _ k1 k2 => m.bind fun x => match x with | .inl x => den (k1 x) | .inr x => den (k2 x)
  | .sub3 m _ _ _ _ _ _ k1 k2 k3 => m.bind fun x => match x with | .inl x => den (k1 x) | .inr (.inl x) => den (k2 x) | .inr (.inr x) => den (k3 x)

def okR (P : Program) {R : Type} (ops : Array Oper) (draw : Bool) (st : St) (K : St → Sc P R → Prop) : Sc P R → List (Nat × Ch) → List Prop → Prop
  | .br i v a b, chs, ps => okR P ops draw st K a (chs ++ [(i, .br true)]) (ps ++ [v = true]) ∧ okR P ops draw st K b (chs ++ [(i, .br false)]) (ps ++ [v = false])
  | .op _ ch q _ k, chs, ps => ∀ x, okR P ops draw st K (k x) (chs ++ ch x) (ps ++ q x)
  | .go k, chs, ps => match runRegion (CallOK P) P ops draw chs st with
    | some (p, st') => p = ps ∧ K st' k
    | none => NoRun P ops draw chs st
  | _, _, _ => False

def okSub (P : Program) {R : Type} (c : Code) (st : St) (sc : Sc P R) (K : AExit → St → Sc P R → Prop) : Prop :=
  match sc with
  | .sub _ c' slots sites st0 G _ k => keepsI sites st.ob = true ∧ proj slots sites st = st0 ∧ c' = c ∧ ∀ x, K (G x).1 (G x).2 (k x)
  | .sub2 _ c' slots sites st0 G _ k1 k2 => keepsI sites st.ob = true ∧ proj slots sites st = st0 ∧ c' = c ∧ (∀ x, K (G (.inl x)).1 (G (.inl x)).2 (k1 x)) ∧ (∀ x, K (G (.inr x)).1 (G (.inr x)).2 (k2 x))
  | .sub3 _ c' slots sites st0 G _ k1 k2 k3 => keepsI sites st.ob = true ∧ proj slots sites st = st0 ∧ c' = c ∧ (∀ x, K (G (.inl x)).1 (G (.inl x)).2 (k1 x)) ∧ (∀ x, K (G (.inr (.inl x))).1 (G (.inr (.inl x))).2 (k2 x)) ∧ (∀ x, K (G (.inr (.inr x))).1 (G (.inr (.inr x))).2 (k3 x))
  | _ => NoFit P c st

def okC (P : Program) {R : Type} : Code → St → Sc P R → (AExit → St → Sc P R → Prop) → Prop
  | .skip, st, sc, K => K .normal st sc
  | .ret, st, sc, K => K .ret st sc
  | .exit id, st, sc, K => K (.exit id) st sc
  | .seq a b, st, sc, K => match sc with
    | .at_ 0 k => okSub P (.seq a b) st k K
    | .at_ (n + 1) k => okC P a st (.at_ n k) fun e st' sc' => (match e with
      | .normal => okC P b st' sc' K
      | .ret => K .ret st' sc'
      | .exit i => K (.exit i) st' sc')
    | sc => okC P a st sc fun e st' sc' => (match e with
      | .normal => okC P b st' sc' K
      | .ret => K .ret st' sc'
      | .exit i => K (.exit i) st' sc')
  | .block id a, st, sc, K => okC P a st sc fun e st' sc' => match e with
    | .exit i => (match Nat.beq i id with | true => K .normal st' sc' | false => K (.exit i) st' sc')
    | .normal => K .normal st' sc'
    | .ret => K .ret st' sc'
  | .region _ ops draw, st, sc, K => (match sc with
    | .frz ss k => okR P ops draw (frzSt ss st) (K .normal) k [] []
    | sc => okR P ops draw st (K .normal) sc [] [])
  | .cond c x y, st, sc, K => match sc with
    | .brc v a b => (match rdO st.rd c with
      | some (.one (.bool v')) => v' = v ∧ okC P x st a K ∧ okC P y st b K
      | _ => NoFit P (.cond c x y) st)
    | .brk v k => (match rdO st.rd c with
      | some (.one (.bool v')) => v' = v ∧ (match v with | true => okC P x st k K | false => okC P y st k K)
      | _ => NoFit P (.cond c x y) st)
    | sc => okSub P (.cond c x y) st sc K
  | .loop body, st, sc, K => okSub P (.loop body) st sc K
  | _, _, _, _ => False

/-- what 'okC' comes to, by the walk alone -/
def exS (Kx : List Nat → List Nat → R → Prop) : Sc P R → List Prop → Prop
  | .ret l m r, _ => Kx l m r
  | .br _ v a b, ps => exS Kx a (ps ++ [v = true]) ∧ exS Kx b (ps ++ [v = false])
  | .brc v a b, _ => v = v ∧ exS Kx a [] ∧ exS Kx b []
  | .brk v k, _ => v = v ∧ exS Kx k []
  | .op _ _ q _ k, ps => ∀ x, exS Kx (k x) (ps ++ q x)
  | .go k, ps => ps = ps ∧ exS Kx k []
  | .frz _ k, ps => exS Kx k ps
  | .at_ _ k, ps => exS Kx k ps
  | .sub _ c _ _ st0 _ _ k, _ => true = true ∧ st0 = st0 ∧ c = c ∧ ∀ x, exS Kx (k x) []
  | .sub2 _ c _ _ st0 _ _ k1 k2, _ => true = true ∧ st0 = st0 ∧ c = c ∧ (∀ x, exS Kx (k1 x) []) ∧ (∀ x, exS Kx (k2 x) [])
  | .sub3 _ c _ _ st0 _ _ k1 k2 k3, _ => true = true ∧ st0 = st0 ∧ c = c ∧ (∀ x, exS Kx (k1 x) []) ∧ (∀ x, exS Kx (k2 x) []) ∧ (∀ x, exS Kx (k3 x) [])

theorem exS_true {Kx : List Nat → List Nat → R → Prop} (h : ∀ l m r, Kx l m r) (sc : Sc P R) : ∀ ps, exS Kx sc ps := by
  induction sc with
  | ret l m r => exact fun _ => h l m r
  | br i v a b iha ihb => exact fun ps => ⟨iha _, ihb _⟩
  | brc v a b iha ihb => exact fun ps => ⟨rfl, iha _, ihb _⟩
  | brk v k ih => exact fun ps => ⟨rfl, ih _⟩
  | op m ch q ok k ih => exact fun ps x => ih x _
  | go k ih => exact fun ps => ⟨rfl, ih _⟩
  | frz ss k ih => exact fun ps => ih _
  | at_ n k ih => exact fun ps => ih _
  | sub m c slots sites st G ok k ih => exact fun ps => ⟨rfl, rfl, rfl, fun x => ih x _⟩
  | sub2 m c slots sites st G ok k1 k2 ih1 ih2 => exact fun ps => ⟨rfl, rfl, rfl, fun x => ih1 x _, fun x => ih2 x _⟩
  | sub3 m c slots sites st G ok k1 k2 k3 ih1 ih2 ih3 => exact fun ps => ⟨rfl, rfl, rfl, fun x => ih1 x _, fun x => ih2 x _, fun x => ih3 x _⟩

theorem okR_sound {ops : Array Oper} {draw : Bool} {st : St} {K : St → Sc P R → Prop} {r : R} : ∀ (sc : Sc P R) (chs : List (Nat × Ch)) (ps : List Prop), okR P ops draw st K sc chs ps → (∀ q ∈ ps, q) → den sc = some r →
    ∃ chs' p st' sc', runRegion (CallOK P) P ops draw chs' st = some (p, st') ∧ (∀ q ∈ p, q) ∧ K st' sc' ∧ den sc' = some r := by
  intro sc
  induction sc with
  | ret l m r => intro chs ps h; exact h.elim
  | brc v a b iha ihb => intro chs ps h; exact h.elim
  | brk v k ih => intro chs ps h; exact h.elim
  | sub m c slots sites st G ok k ih => intro chs ps h; exact h.elim
  | frz ss k ih => intro chs ps h; exact h.elim
  | at_ n k ih => intro chs ps h; exact h.elim
  | sub2 m c slots sites st G ok k1 k2 ih1 ih2 => intro chs ps h; exact h.elim
  | sub3 m c slots sites st G ok k1 k2 k3 ih1 ih2 ih3 => intro chs ps h; exact h.elim
  | br i v a b iha ihb =>
    intro chs ps h hp hd
    cases v with
    | true => exact iha _ _ h.1 (by intro q hq; rcases List.mem_append.1 hq with hq | hq; exact hp q hq; rw [List.mem_singleton.1 hq]) hd
    | false => exact ihb _ _ h.2 (by intro q hq; rcases List.mem_append.1 hq with hq | hq; exact hp q hq; rw [List.mem_singleton.1 hq]) hd
  | op m ch q ok k ih =>
    intro chs ps h hp hd
    unfold den at hd
    obtain ⟨x, hx, hd⟩ := Option.bind_eq_some_iff.1 hd
    exact ih x _ _ (h x) (by intro p hq; rcases List.mem_append.1 hq with hq | hq; exact hp p hq; exact ok x hx p hq) hd
  | go k ih =>
    intro chs ps h hp hd
    unfold okR at h
    split at h
    · rename_i p st' hrun
      obtain ⟨rfl, hk⟩ := h
      exact ⟨chs, p, st', k, hrun, hp, hk, hd⟩
    · cases h

theorem sub_exec {c : Code} {st : St} {slots sites : List Nat} {e : AExit} {st' : St} (hk : keepsI sites st.ob = true) (H : ExecOK P c (proj slots sites st) e st') : ExecOK P c st e st' := by
  intro w own a S hdd Q hQ
  exact H w own a S.proj hdd Q fun a1 w1 own1 S1 hd1 W1 => hQ a1 w1 own1 S1 hd1 ((WayI.proj hk).comp W1)

theorem okSub_sound {c : Code} {st : St} {sc : Sc P R} {K : AExit → St → Sc P R → Prop} {r : R} (h : okSub P c st sc K) (hd : den sc = some r) :
    ∃ e st' sc', ExecOK P c st e st' ∧ K e st' sc' ∧ den sc' = some r := by
  unfold okSub at h
  split at h
  · rename_i m c' slots sites st0 G ok k
    obtain ⟨hk, rfl, rfl, hK⟩ := h
    unfold den at hd
    obtain ⟨x, hx, hd⟩ := Option.bind_eq_some_iff.1 hd
    exact ⟨_, _, _, sub_exec hk (ok x hx), hK x, hd⟩
  · rename_i m c' slots sites st0 G ok k1 k2
    obtain ⟨hk, rfl, rfl, hK1, hK2⟩ := h
    unfold den at hd
    obtain ⟨x, hx, hd⟩ := Option.bind_eq_some_iff.1 hd
    cases x with
    | inl x => exact ⟨_, _, _, sub_exec hk (ok _ hx), hK1 x, hd⟩
    | inr x => exact ⟨_, _, _, sub_exec hk (ok _ hx), hK2 x, hd⟩
  · rename_i m c' slots sites st0 G ok k1 k2 k3
    obtain ⟨hk, rfl, rfl, hK1, hK2, hK3⟩ := h
    unfold den at hd
    obtain ⟨x, hx, hd⟩ := Option.bind_eq_some_iff.1 hd
    rcases x with x | x | x
    · exact ⟨_, _, _, sub_exec hk (ok _ hx), hK1 x, hd⟩
    · exact ⟨_, _, _, sub_exec hk (ok _ hx), hK2 x, hd⟩
    · exact ⟨_, _, _, sub_exec hk (ok _ hx), hK3 x, hd⟩
  · cases h

theorem okC_sound (hm : P.follows .mixedOrders = true) {r : R} : ∀ (c : Code) (st : St) (sc : Sc P R) (K : AExit → St → Sc P R → Prop), okC P c st sc K → den sc = some r →
    ∃ e st' sc', ExecOK P c st e st' ∧ K e st' sc' ∧ den sc' = some r := by
  intro c
  induction c with
  | skip =>
    intro st sc K h hd
    exact ⟨.normal, st, sc, fun w own a S hd Q hQ => wp_skip (hQ a w own S hd (WayI.refl _ _ _)), h, hd⟩
  | ret =>
    intro st sc K h hd
    exact ⟨.ret, st, sc, fun w own a S hd Q hQ => wp_ret (hQ a w own S hd (WayI.refl _ _ _)), h, hd⟩
  | exit id =>
    intro st sc K h hd
    exact ⟨.exit id, st, sc, fun w own a S hd Q hQ => wp_exit (hQ a w own S hd (WayI.refl _ _ _)), h, hd⟩
  | seq x y ihx ihy =>
    intro st sc K h hd
    have key : ∀ sc0 : Sc P R, den sc0 = some r → (okC P x st sc0 fun e st' sc' => (match e with
      | .normal => okC P y st' sc' K
      | .ret => K .ret st' sc'
      | .exit i => K (.exit i) st' sc')) → ∃ e st' sc', ExecOK P (.seq x y) st e st' ∧ K e st' sc' ∧ den sc' = some r := by
      intro sc0 hd h
      obtain ⟨e, st1, sc1, H1, hK, hd1⟩ := ihx _ _ _ h hd
      cases e with
      | normal =>
        obtain ⟨e2, st2, sc2, H2, hK2, hd2⟩ := ihy _ _ _ hK hd1
        refine ⟨e2, st2, sc2, ?_, hK2, hd2⟩
        intro w own a S hd Q hQ
        refine wp_seq (H1 w own a S hd _ fun a1 w1 own1 S1 hd1 W1 => ?_)
        exact H2 w1 own1 a1 S1 hd1 Q fun a2 w2 own2 S2 hd2 W2 => hQ a2 w2 own2 S2 hd2 (W1.comp W2)
      | ret =>
        refine ⟨.ret, st1, sc1, ?_, hK, hd1⟩
        intro w own a S hd Q hQ
        exact wp_seq (H1 w own a S hd _ fun a1 w1 own1 S1 hd1 W1 => hQ a1 w1 own1 S1 hd1 W1)
      | exit i =>
        refine ⟨.exit i, st1, sc1, ?_, hK, hd1⟩
        intro w own a S hd Q hQ
        exact wp_seq (H1 w own a S hd _ fun a1 w1 own1 S1 hd1 W1 => hQ a1 w1 own1 S1 hd1 W1)
    unfold okC at h
    split at h
    · exact okSub_sound h hd
    · rename_i n k
      exact key (.at_ n k) hd h
    · exact key _ hd h
  | cond c x y ihx ihy =>
    intro st sc K h hd
    unfold okC at h
    split at h
    · rename_i v a b
      split at h
      · rename_i v' hv
        obtain ⟨rfl, h1, h2⟩ := h
        cases v' with
        | true =>
          obtain ⟨e1, st1, sc1, H1, hK, hd1⟩ := ihx _ _ _ h1 hd
          refine ⟨e1, st1, sc1, ?_, hK, hd1⟩
          intro w own a S hdd Q hQ
          have hc : a.eval c = .bool true := rep_bool (obl := st.ob) (rdO_rep S.2.2 hv)
          exact wp_cond hc (H1 w own a S hdd Q hQ)
        | false =>
          obtain ⟨e1, st1, sc1, H1, hK, hd1⟩ := ihy _ _ _ h2 hd
          refine ⟨e1, st1, sc1, ?_, hK, hd1⟩
          intro w own a S hdd Q hQ
          have hc : a.eval c = .bool false := rep_bool (obl := st.ob) (rdO_rep S.2.2 hv)
          exact wp_cond hc (H1 w own a S hdd Q hQ)
      · cases h
    · rename_i v k
      split at h
      · rename_i v' hv
        obtain ⟨rfl, h1⟩ := h
        cases v' with
        | true =>
          obtain ⟨e1, st1, sc1, H1, hK, hd1⟩ := ihx _ _ _ h1 hd
          refine ⟨e1, st1, sc1, ?_, hK, hd1⟩
          intro w own a S hdd Q hQ
          have hc : a.eval c = .bool true := rep_bool (obl := st.ob) (rdO_rep S.2.2 hv)
          exact wp_cond hc (H1 w own a S hdd Q hQ)
        | false =>
          obtain ⟨e1, st1, sc1, H1, hK, hd1⟩ := ihy _ _ _ h1 hd
          refine ⟨e1, st1, sc1, ?_, hK, hd1⟩
          intro w own a S hdd Q hQ
          have hc : a.eval c = .bool false := rep_bool (obl := st.ob) (rdO_rep S.2.2 hv)
          exact wp_cond hc (H1 w own a S hdd Q hQ)
      · cases h
    · exact okSub_sound h hd
  | block id body ih =>
    intro st sc K h hd
    unfold okC at h
    obtain ⟨e, st1, sc1, H1, hK, hd1⟩ := ih _ _ _ h hd
    cases e with
    | normal =>
      refine ⟨.normal, st1, sc1, ?_, hK, hd1⟩
      intro w own a S hd Q hQ
      refine wp_block (H1 w own a S hd _ fun a1 w1 own1 S1 hd1 W1 => ?_)
      exact hQ a1 w1 own1 S1 hd1 W1
    | ret =>
      refine ⟨.ret, st1, sc1, ?_, hK, hd1⟩
      intro w own a S hd Q hQ
      refine wp_block (H1 w own a S hd _ fun a1 w1 own1 S1 hd1 W1 => ?_)
      exact hQ a1 w1 own1 S1 hd1 W1
    | exit i =>
      dsimp only at hK
      split at hK
      · rename_i hi
        have hi : i = id := by simpa using hi
        subst hi
        refine ⟨.normal, st1, sc1, ?_, hK, hd1⟩
        intro w own a S hd Q hQ
        refine wp_block (H1 w own a S hd _ fun a1 w1 own1 S1 hd1 W1 => ?_)
        simp only [exitOf, Exit.inBlock, if_true]
        exact hQ a1 w1 own1 S1 hd1 W1
      · rename_i hi
        have hi : i ≠ id := beq_ne hi
        refine ⟨.exit i, st1, sc1, ?_, hK, hd1⟩
        intro w own a S hd Q hQ
        refine wp_block (H1 w own a S hd _ fun a1 w1 own1 S1 hd1 W1 => ?_)
        simp only [exitOf, Exit.inBlock, hi, if_false]
        exact hQ a1 w1 own1 S1 hd1 W1
  | loop body ih =>
    intro st sc K h hd
    exact okSub_sound h hd
  | region id ops draw =>
    intro st sc K h hd
    unfold okC at h
    split at h
    · rename_i ss k
      obtain ⟨chs, p, st', sc', hrun, hp, hK, hd'⟩ := okR_sound k [] [] h (by simp) hd
      refine ⟨.normal, st', sc', ?_, hK, hd'⟩
      intro w own a S hdd Q hQ
      obtain ⟨own1, S1, W1⟩ := frzSt_sound ss S
      exact region_sound hm hrun hp S1 fun a' w' own' S' hd' W => hQ a' w' own' S' (hd'.trans hdd) (W1.comp W.toI)
    · obtain ⟨chs, p, st', sc', hrun, hp, hK, hd'⟩ := okR_sound _ [] [] h (by simp) hd
      refine ⟨.normal, st', sc', ?_, hK, hd'⟩
      intro w own a S hdd Q hQ
      exact region_sound hm hrun hp S fun a' w' own' S' hd' W => hQ a' w' own' S' (hd'.trans hdd) W.toI
  | _ =>
    intro st sc K h hd
    exact h.elim

/-! a whole function -/
def kFn (P : Program) (fn : Func) (oin : List Ob) (G : R → T × List Ob) : AExit → St → Sc P R → Prop
  | e, st, .ret frz out r => (isEnd e && ifOut oin 1000 out) = true ∧ (match runEnd P fn st frz out with
    | some (t, oo) => wkT t (G r).1 = (G r).1 ∧ oo = (G r).2
    | none => NoFit P .skip st)
  | _, st, _ => NoFit P .skip st
def xFn (G : R → T × List Ob) (_ _ : List Nat) (r : R) : Prop := true = true ∧ (G r).1 = (G r).1 ∧ (G r).2 = (G r).2

def okFn (P : Program) {R : Type} (f : Nat) (args : List T) (oin : List Ob) (G : R → T × List Ob) (sc : Sc P R) : Prop :=
  match P.funcs[f]? with
  | none => False
  | some fn => match fn.body with
    | none => False
    | some c => okC P c (startSt fn args oin) sc (kFn P fn oin G)

theorem fnOK (hm : P.follows .mixedOrders = true) {f : Nat} {args : List T} {oin : List Ob} {G : R → T × List Ob} {sc : Sc P R} (h : okFn P f args oin G sc = exS (xFn G) sc []) (r : R) (hd : den sc = some r) :
    CallOK P f args oin (G r).1 (G r).2 := by
  have h : okFn P f args oin G sc := by rw [h]; exact exS_true (fun l m r => ⟨rfl, rfl, rfl⟩) _ _
  unfold okFn at h
  split at h
  · exact h.elim
  · rename_i fn hfn
    split at h
    · exact h.elim
    · rename_i c hb
      obtain ⟨e, st, sc', H, hK, hd'⟩ := okC_sound hm _ _ _ _ h hd
      cases sc' with
      | ret frz out r' =>
        have : r' = r := by simpa [den] using hd'
        subst this
        obtain ⟨hg, hK⟩ := hK
        split at hK
        · rename_i t oo he
          obtain ⟨hw, rfl⟩ := hK
          rw [← hw]
          refine CallOK.weaken ?_ (wkT_weak _ _)
          exact fn_exec hm hfn hb H hg he
        · cases hK
      | _ => cases hK

/-! a round of a loop, a piece of code -/
def kEnd (P : Program) (G : R → AExit × St) : AExit → St → Sc P R → Prop
  | e, st, .ret slots sites r => keepsI sites st.ob = true ∧ e = (G r).1 ∧ proj slots sites st = (G r).2
  | _, st, _ => NoFit P .skip st
def xEnd (G : R → AExit × St) (_ _ : List Nat) (r : R) : Prop := true = true ∧ (G r).1 = (G r).1 ∧ (G r).2 = (G r).2

theorem codeOK (hm : P.follows .mixedOrders = true) {c : Code} {st : St} {G : R → AExit × St} {sc : Sc P R} (h : okC P c st sc (kEnd P G) = exS (xEnd G) sc []) (r : R) (hd : den sc = some r) :
    ExecOK P c st (G r).1 (G r).2 := by
  have h : okC P c st sc (kEnd P G) := by rw [h]; exact exS_true (fun l m r => ⟨rfl, rfl, rfl⟩) _ _
  obtain ⟨e, st', sc', H, hK, hd'⟩ := okC_sound hm _ _ _ _ h hd
  cases sc' with
  | ret slots sites r' =>
    have : r' = r := by simpa [den] using hd'
    subst this
    obtain ⟨hk, rfl, he⟩ := hK
    rw [← he]
    intro w own a S hdd Q hQ
    exact H w own a S hdd Q fun a1 w1 own1 S1 hd1 W1 => hQ a1 w1 own1 S1.proj hd1 (W1.comp (WayI.proj hk))
  | _ => cases hK

/-! what a loop computes -/
def iter {σ ρ : Type} (step : σ → Option (σ ⊕ ρ)) : Nat → σ → Option ρ
  | 0, _ => none
  | n + 1, s => match step s with
    | some (.inl s') => iter step n s'
    | some (.inr d) => some d
    | none => none

theorem iter_mono {σ ρ : Type} {step : σ → Option (σ ⊕ ρ)} {d : ρ} : ∀ {n m : Nat} {s : σ}, n ≤ m → iter step n s = some d → iter step m s = some d
  | 0, m, s, _, h => by simp [iter] at h
  | n + 1, 0, s, hm, _ => by omega
  | n + 1, m + 1, s, hm, h => by
    unfold iter at h ⊢
    split at h
    · exact iter_mono (by omega) h
    · exact h
    · cases h

open Classical in
noncomputable def lrun {σ ρ : Type} (step : σ → Option (σ ⊕ ρ)) (s : σ) : Option ρ :=
  if h : ∃ n d, iter step n s = some d then some (Classical.choose (Classical.choose_spec h)) else none

theorem lrun_iter {σ ρ : Type} {step : σ → Option (σ ⊕ ρ)} {s : σ} {d : ρ} : lrun step s = some d ↔ ∃ n, iter step n s = some d := by
  unfold lrun
  constructor
  · intro h
    split at h
    · rename_i hx
      injection h with h
      exact ⟨_, by rw [← h]; exact Classical.choose_spec (Classical.choose_spec hx)⟩
    · cases h
  · rintro ⟨n, h⟩
    have hx : ∃ n d, iter step n s = some d := ⟨n, d, h⟩
    rw [dif_pos hx]
    have h' := Classical.choose_spec (Classical.choose_spec hx)
    have h1 := iter_mono (Nat.le_max_left n (Classical.choose hx)) h
    have h2 := iter_mono (Nat.le_max_right n (Classical.choose hx)) h'
    rw [h1] at h2
    injection h2 with h2
    rw [← h2]

theorem lrun_eq {σ ρ : Type} (step : σ → Option (σ ⊕ ρ)) (s : σ) : lrun step s = match step s with
    | some (.inl s') => lrun step s'
    | some (.inr d) => some d
    | none => none := by
  apply Option.ext
  intro d
  rw [lrun_iter]
  cases hs : step s with
  | none =>
    simp only [reduceCtorEq, iff_false, not_exists]
    intro n h
    cases n with
    | zero => simp [iter] at h
    | succ n => simp [iter, hs] at h
  | some x =>
    cases x with
    | inl s' =>
      simp only
      rw [lrun_iter]
      constructor
      · rintro ⟨n, h⟩
        cases n with
        | zero => simp [iter] at h
        | succ n => exact ⟨n, by simpa [iter, hs] using h⟩
      · rintro ⟨n, h⟩
        exact ⟨n + 1, by simpa [iter, hs] using h⟩
    | inr d' =>
      constructor
      · rintro ⟨n, h⟩
        cases n with
        | zero => simp [iter] at h
        | succ n => simpa [iter, hs] using h
      · intro h
        exact ⟨1, by simpa [iter, hs] using h⟩

theorem loopOK (hm : P.follows .mixedOrders = true) {body : Code} {σ ρ : Type} {G : σ ⊕ ρ → AExit × St} {sc : σ → Sc P (σ ⊕ ρ)} (h : ∀ s, okC P body (G (.inl s)).2 (sc s) (kEnd P G) = exS (xEnd G) (sc s) [])
    (hn : ∀ s, (G (.inl s)).1 = .normal) (hl : ∀ d, leaves (G (.inr d)).1 = true) (s : σ) (d : ρ) (hd : lrun (fun s => den (sc s)) s = some d) : ExecOK P (.loop body) (G (.inl s)).2 (G (.inr d)).1 (G (.inr d)).2 := by
  obtain ⟨n, hd⟩ := lrun_iter.1 hd
  refine LoopOK.exec (n := n) ?_
  rename_i hd0
  clear hd0
  induction n generalizing s with
  | zero => simp [iter] at hd
  | succ n ih =>
    unfold iter at hd
    split at hd
    · rename_i s' hs
      have H := codeOK hm (h s) _ hs
      rw [hn] at H
      have H2 := ih s' hd
      intro w own a S hdd Q hQ
      rw [rounds_succ]
      refine H w own a S hdd _ fun a1 w1 own1 S1 hd1 W1 => ?_
      exact H2 w1 own1 a1 S1 hd1 Q fun a2 w2 own2 S2 hd2 W2 => hQ a2 w2 own2 S2 hd2 (W1.comp W2)
    · rename_i d' hs
      injection hd with hd
      subst hd
      have H := codeOK hm (h s) _ hs
      have hl := hl d'
      intro w own a S hdd Q hQ
      rw [rounds_succ]
      refine H w own a S hdd _ fun a1 w1 own1 S1 hd1 W1 => ?_
      revert hl hQ
      cases (G (.inr d')).1 with
      | normal => intro hl _; cases hl
      | ret => intro _ hQ; exact hQ a1 w1 own1 S1 hd1 W1
      | exit i => intro _ hQ; exact hQ a1 w1 own1 S1 hd1 W1
    · cases hd

end Go.Abs
