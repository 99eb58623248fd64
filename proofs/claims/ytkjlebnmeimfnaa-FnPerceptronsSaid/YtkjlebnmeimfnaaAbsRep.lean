import Derived.Test.YtkjlebnmeimfnaaAbsDefs
import Derived.DataElems
import Derived.Laws.Cells
import Derived.Laws.CopyRow
import Derived.Laws.Slices
import Derived.Maps.AppendAt
import Derived.Laws.MakeOwn
import Derived.Laws.OwnMore
namespace Go.Abs

inductive Own where
  | free | outer
  | at (s : Nat)

/-- a tree, in memory that nobody writes -/
inductive RepI (w : World) (fr : Nat → Prop) : V → Value → Prop where
  | int (k n) : RepI w fr (.int k n) (.int k n)
  | bool (b) : RepI w fr (.bool b) (.bool b)
  | str (s) : RepI w fr (.str s) (.string s)
  | nil : RepI w fr .nil (.slice none 0 0)
  | arr (sz : Nat) (xs : List (List V)) (A : Option Addr) (cap : Nat) (val : Nat → Nat → Value) (hx : xs.length ≤ maxLen) (hc : xs.length ≤ cap) (hl : ∀ e ∈ xs, e.length = sz)
      (hr : ∀ i e j x, xs[i]? = some e → e[j]? = some x → RepI w fr x (val i j))
      (hm : 0 < xs.length → ∃ a, A = some a ∧ ∀ i e j x, xs[i]? = some e → e[j]? = some x → fr a.block ∧ w.cell? (a.add (i * sz + j)) = some (val i j)) :
      RepI w fr (.arr sz xs) (.slice A xs.length cap)

theorem RepI.mono {w w' : World} {fr fr' : Nat → Prop} (H : ∀ a v, fr a.block → w.cell? a = some v → fr' a.block ∧ w'.cell? a = some v) {x : V} {u : Value} (h : RepI w fr x u) : RepI w' fr' x u := by
  induction h with
  | int k n => exact .int k n
  | bool b => exact .bool b
  | str s => exact .str s
  | nil => exact .nil
  | arr sz xs A cap val hx hc hl hr hm ih =>
    refine .arr sz xs A cap val hx hc hl ih fun h0 => ?_
    obtain ⟨a, ha, hm⟩ := hm h0
    refine ⟨a, ha, fun i e j x he hx => ?_⟩
    obtain ⟨h1, h2⟩ := hm i e j x he hx
    have hb : (a.add (i * sz + j)).block = a.block := by unfold Addr.add; split <;> rfl
    have := H (a.add (i * sz + j)) _ (by rw [hb]; exact h1) h2
    rw [hb] at this
    exact this

theorem RepI.one {w fr x u} (h : RepI w fr x u) : u.oneCell' = true := by cases h <;> rfl
theorem RepI.isTree {w fr x u} (h : RepI w fr x u) : x.tree = true := by cases h <;> rfl

abbrev Obs := List (Nat × Ob)
def frOf (own : Nat → Own) : Nat → Prop := fun b => own b = .free

def bsz (w : World) (b : Nat) : Nat := match w.heap[b]? with | some (.cells c _ _) => c.size | _ => 0

/-- a value in a cell -/
def RepV (w : World) (own : Nat → Own) (ob : Obs) : V → Value → Prop
  | .ref s v, x => x.oneCell' = true ∧ v ≤ (lk ob s).ver ∧ ∀ c, lk ob s = ⟨v, some c⟩ → (c.es = [] ∧ x = .slice none 0 0) ∨ ∃ b cap, x = .slice (some ⟨b, 0, none⟩) c.es.length cap ∧ own b = .at s ∧ bsz w b = cap * c.sz ∧ c.es.length ≤ cap ∧ cap ≤ maxLen
  | .ptr s v i off, x => x.oneCell' = true ∧ v ≤ (lk ob s).ver ∧ ∀ c, lk ob s = ⟨v, some c⟩ → ∃ b, x = .pointer (some ⟨b, i * c.sz + off, none⟩) ∧ own b = .at s
  | .ipt cs off, x => ∃ a, x = .pointer (some a) ∧ ∀ j y, cs[off + j]? = some y → own a.block = .free ∧ ∃ u, w.cell? (a.add j) = some u ∧ RepI w (frOf own) y u
  | .fn f cap, x => cap = [] ∧ x = .func (.func f) #[] #[]
  | .undef, _ => True
  | .void, x => x = undef
  | .int k n, x => RepI w (frOf own) (.int k n) x
  | .bool b, x => RepI w (frOf own) (.bool b) x
  | .str s, x => RepI w (frOf own) (.str s) x
  | .nil, x => RepI w (frOf own) .nil x
  | .arr sz xs, x => RepI w (frOf own) (.arr sz xs) x

theorem RepV.ofI {w own ob x u} (h : RepI w (frOf own) x u) : RepV w own ob x u := by
  cases h with
  | int k n => exact .int k n
  | bool b => exact .bool b
  | str s => exact .str s
  | nil => exact .nil
  | arr sz xs A cap val hx hc hl hr hm => exact .arr sz xs A cap val hx hc hl hr hm
theorem RepV.toI {w own ob x u} (ht : x.tree = true) (h : RepV w own ob x u) : RepI w (frOf own) x u := by
  cases x <;> first | exact h | (simp [V.tree] at ht)
theorem RepV.oneC {w own ob x u} (hd : x.def = true) (h : RepV w own ob x u) : u.oneCell' = true := by
  cases x with
  | undef => simp [V.def] at hd
  | void => simp [V.def] at hd
  | ref s v => exact h.1
  | ptr s v i off => exact h.1
  | ipt cs off => obtain ⟨a, rfl, _⟩ := h; rfl
  | fn f cap => obtain ⟨_, rfl⟩ := h; rfl
  | int k n => exact RepI.one (w := w) (fr := frOf own) h
  | bool b => exact RepI.one (w := w) (fr := frOf own) h
  | str b => exact RepI.one (w := w) (fr := frOf own) h
  | nil => exact RepI.one (w := w) (fr := frOf own) h
  | arr sz xs => exact RepI.one (w := w) (fr := frOf own) h

/-- a cell of an object, trees alone or not -/
def RepC (flat : Bool) (w : World) (own : Nat → Own) (ob : Obs) (x : V) (u : Value) : Prop :=
  match flat with
  | true => RepI w (frOf own) x u
  | false => RepV w own ob x u
theorem RepC.toV {flat w own ob x u} (h : RepC flat w own ob x u) : RepV w own ob x u := by
  cases flat
  · exact h
  · exact RepV.ofI h

theorem RepC.mk {flat w own ob x u} (h : RepV w own ob x u) (ht : flat = true → x.tree = true) : RepC flat w own ob x u := by
  cases flat
  · exact h
  · exact RepV.toI (ht rfl) h

structure BlkOK (w : World) (own : Nat → Own) (ob : Obs) (s : Nat) (c : Con) (b : Nat) (cells : Array Value) : Prop where
  owned : own b = .at s
  only : ∀ b', own b' = .at s → b' = b
  heap : w.heap[b]? = some (.cells cells c.ty (0, 0))
  len : ∀ e ∈ c.es, e.length = c.sz
  room : c.es.length * c.sz ≤ cells.size
  rep : ∀ i e j x, c.es[i]? = some e → e[j]? = some x → ∃ u, cells[i * c.sz + j]? = some u ∧ RepC c.flat w own ob x u

structure HR (w : World) (own : Nat → Own) (ob : Obs) : Prop where
  blk : ∀ s v c, lk ob s = ⟨v, some c⟩ → (c.es = [] ∧ ∀ b, own b ≠ .at s) ∨ ∃ b cells, BlkOK w own ob s c b cells
  fresh : ∀ b, w.heap.size ≤ b → own b = .free

/-! what is looked up behind a change -/
theorem lk_up (l : Obs) (s : Nat) (x : Ob) (t : Nat) : lk (up l s x) t = if t = s then x else lk l t := by
  induction l with
  | nil =>
    simp only [up, lk]
    by_cases h : t = s
    · subst h; simp
    · have : Nat.beq s t = false := by rw [← Bool.not_eq_true]; simp [Nat.beq_eq]; exact fun e => h e.symm
      rw [this, if_neg h]
  | cons p l ih =>
    obtain ⟨q, o⟩ := p
    simp only [up]
    cases hq : Nat.beq q s with
    | true =>
      have hqs : q = s := by simpa [Nat.beq_eq] using hq
      subst hqs
      simp only [lk]
      by_cases h : t = q
      · subst h; simp
      · have : Nat.beq q t = false := by rw [← Bool.not_eq_true]; simp [Nat.beq_eq]; exact fun e => h e.symm
        rw [this, if_neg h]
    | false =>
      have hqs : q ≠ s := by intro e; subst e; simp at hq
      simp only [lk]
      cases hqt : Nat.beq q t with
      | true =>
        have : q = t := by simpa [Nat.beq_eq] using hqt
        subst this
        simp [hqs]
      | false => exact ih

/-! from one state of memory to the next -/
structure Trans (w : World) (own : Nat → Own) (ob : Obs) (w' : World) (own' : Nat → Own) (ob' : Obs) : Prop where
  free : ∀ a v, own a.block = .free → w.cell? a = some v → own' a.block = .free ∧ w'.cell? a = some v
  site : ∀ s, (lk ob s).ver ≤ (lk ob' s).ver ∧ ∀ c', lk ob' s = ⟨(lk ob s).ver, some c'⟩ → ∃ c, lk ob s = ⟨(lk ob s).ver, some c⟩ ∧ c'.sz = c.sz ∧ c'.es.length = c.es.length ∧
    ∀ b, own b = .at s → own' b = .at s ∧ bsz w' b = bsz w b

theorem Trans.refl (w own ob) : Trans w own ob w own ob where
  free a v h1 h2 := ⟨h1, h2⟩
  site s := ⟨Nat.le_refl _, fun c' h => ⟨c', h, rfl, rfl, fun b hb => ⟨hb, rfl⟩⟩⟩

theorem RepI.trans {w own ob w' own' ob'} (T : Trans w own ob w' own' ob') {x u} (h : RepI w (frOf own) x u) : RepI w' (frOf own') x u :=
  h.mono fun a v => T.free a v

theorem addr_block (a : Addr) (n : Nat) : (a.add n).block = a.block := by unfold Addr.add; split <;> rfl

theorem RepV.trans {w own ob w' own' ob'} (T : Trans w own ob w' own' ob') {x u} (h : RepV w own ob x u) : RepV w' own' ob' x u := by
  cases x with
  | undef => trivial
  | void => exact h
  | ref s v =>
    obtain ⟨h1, h2, h3⟩ := h
    obtain ⟨t1, t2⟩ := T.site s
    refine ⟨h1, Nat.le_trans h2 t1, fun c' hc' => ?_⟩
    have hv : (lk ob s).ver = v := by
      have : (lk ob' s).ver = v := by rw [hc']
      omega
    obtain ⟨c, hc, e1, e2, e3⟩ := t2 c' (by rw [hv]; exact hc')
    rw [hv] at hc
    rcases h3 c hc with ⟨hn, hx⟩ | ⟨b, cap, rfl, ho, hb, hl, hm⟩
    · exact .inl ⟨List.eq_nil_of_length_eq_zero (by rw [e2, hn]; rfl), hx⟩
    obtain ⟨o', b'⟩ := e3 b ho
    exact .inr ⟨b, cap, by rw [e2], o', by rw [b', hb, e1], by rw [e2]; exact hl, hm⟩
  | ptr s v i off =>
    obtain ⟨h1, h2, h3⟩ := h
    obtain ⟨t1, t2⟩ := T.site s
    refine ⟨h1, Nat.le_trans h2 t1, fun c' hc' => ?_⟩
    have hv : (lk ob s).ver = v := by
      have : (lk ob' s).ver = v := by rw [hc']
      omega
    obtain ⟨c, hc, e1, e2, e3⟩ := t2 c' (by rw [hv]; exact hc')
    rw [hv] at hc
    obtain ⟨b, rfl, ho⟩ := h3 c hc
    exact ⟨b, by rw [e1], (e3 b ho).1⟩
  | ipt cs off =>
    obtain ⟨a, rfl, h⟩ := h
    refine ⟨a, rfl, fun j y hy => ?_⟩
    obtain ⟨h1, u, h2, h3⟩ := h j y hy
    have := T.free (a.add j) u (by rw [addr_block]; exact h1) h2
    rw [addr_block] at this
    exact ⟨this.1, u, this.2, h3.trans T⟩
  | fn f cap => exact h
  | int k n => exact RepI.trans T (x := .int k n) h
  | bool b => exact RepI.trans T (x := .bool b) h
  | str b => exact RepI.trans T (x := .str b) h
  | nil => exact RepI.trans T (x := .nil) h
  | arr sz xs => exact RepI.trans T (x := .arr sz xs) h

theorem RepC.trans {flat w own ob w' own' ob'} (T : Trans w own ob w' own' ob') {x u} (h : RepC flat w own ob x u) : RepC flat w' own' ob' x u := by
  cases flat
  · exact RepV.trans T h
  · exact RepI.trans T h

/-- what a call keeps of the memory that it found -/
structure Keep (w : World) (own : Nat → Own) (w' : World) (own' : Nat → Own) : Prop where
  os : w'.os = w.os
  tape : w'.tape = w.tape
  output : w'.output = w.output
  size : w.heap.size ≤ w'.heap.size
  old : ∀ b, b < w.heap.size → own b = .free ∨ own b = .outer → w'.heap[b]? = w.heap[b]?
  free : ∀ b, b < w.heap.size → own b = .free → own' b = .free
  outer : ∀ b, own b = .outer ↔ own' b = .outer

theorem Keep.refl (w own) : Keep w own w own := ⟨rfl, rfl, rfl, Nat.le_refl _, fun _ _ _ => rfl, fun _ _ h => h, fun _ => Iff.rfl⟩
theorem Keep.trans {w own w1 own1 w2 own2} (h : Keep w own w1 own1) (k : Keep w1 own1 w2 own2) : Keep w own w2 own2 where
  os := k.os.trans h.os
  tape := k.tape.trans h.tape
  output := k.output.trans h.output
  size := Nat.le_trans h.size k.size
  old b hb ho := by
    rw [k.old b (Nat.lt_of_lt_of_le hb h.size) (ho.imp (h.free b hb) (h.outer b).1)]
    exact h.old b hb ho
  free b hb hf := k.free b (Nat.lt_of_lt_of_le hb h.size) (h.free b hb hf)
  outer b := (h.outer b).trans (k.outer b)

theorem cell_lt {w : World} {a : Addr} {v : Value} (h : w.cell? a = some v) : a.block < w.heap.size := World.block_lt_of_cell? w a h

/-- One site changes; all other blocks stay. -/
theorem site_step {w own ob w' own'} {s ver : Nat} {oc : Option Con} (H : HR w own ob)
    (hos : w'.os = w.os) (htape : w'.tape = w.tape) (hout : w'.output = w.output) (hsize : w.heap.size ≤ w'.heap.size)
    (hblk : ∀ b, b < w.heap.size → own b ≠ .at s → w'.heap[b]? = w.heap[b]? ∧ own' b = own b)
    (honly : ∀ b t, own' b = .at t → t ≠ s → own b = .at t)
    (hfresh : ∀ b, w'.heap.size ≤ b → own' b = .free)
    (houter : ∀ b, own' b = .outer → own b = .outer)
    (hver : (lk ob s).ver ≤ ver)
    (hsame : ∀ c', oc = some c' → ver = (lk ob s).ver → ∃ c, lk ob s = ⟨ver, some c⟩ ∧ c'.sz = c.sz ∧ c'.es.length = c.es.length ∧ ∀ b, own b = .at s → own' b = .at s ∧ bsz w' b = bsz w b)
    (hnew : ∀ c', oc = some c' → Trans w own ob w' own' (up ob s ⟨ver, oc⟩) → (c'.es = [] ∧ ∀ b, own' b ≠ .at s) ∨ ∃ b cells, BlkOK w' own' (up ob s ⟨ver, oc⟩) s c' b cells) :
    Trans w own ob w' own' (up ob s ⟨ver, oc⟩) ∧ HR w' own' (up ob s ⟨ver, oc⟩) ∧ Keep w own w' own' := by
  have hlt : ∀ b t, own b = .at t → b < w.heap.size := fun b t h => by
    rcases Nat.lt_or_ge b w.heap.size with h1 | h1
    · exact h1
    · have := H.fresh b h1; rw [h] at this; cases this
  have T : Trans w own ob w' own' (up ob s ⟨ver, oc⟩) := by
    refine ⟨fun a v h1 h2 => ?_, fun t => ?_⟩
    · obtain ⟨g1, g2⟩ := hblk a.block (cell_lt h2) (by rw [h1]; intro h; cases h)
      exact ⟨g2.trans h1, by rw [World.cell?_of_block g1]; exact h2⟩
    · rw [lk_up]
      by_cases hts : t = s
      · subst hts
        rw [if_pos rfl]
        refine ⟨hver, fun c' h => ?_⟩
        injection h with hv hc
        obtain ⟨c, h1, h2, h3, h4⟩ := hsame c' hc hv
        exact ⟨c, by rw [← hv]; exact h1, h2, h3, h4⟩
      · rw [if_neg hts]
        refine ⟨Nat.le_refl _, fun c' h => ⟨c', h, rfl, rfl, fun b hb => ?_⟩⟩
        obtain ⟨g1, g2⟩ := hblk b (hlt b t hb) (by rw [hb]; intro h; injection h with h; exact hts h)
        exact ⟨g2.trans hb, by simp [bsz, g1]⟩
  refine ⟨T, ⟨fun t v c h => ?_, hfresh⟩, hos, htape, hout, hsize, fun b hb ho => ?_, fun b hb hf => ?_, fun b => ⟨fun h => ?_, houter b⟩⟩
  · rw [lk_up] at h
    by_cases hts : t = s
    · subst hts
      rw [if_pos rfl] at h
      injection h with _ hc
      exact hnew c hc T
    · rw [if_neg hts] at h
      rcases H.blk t v c h with hemp | ⟨b, cells, B⟩
      · exact .inl ⟨hemp.1, fun b hb => hemp.2 b (honly b t hb hts)⟩
      right
      obtain ⟨g1, g2⟩ := hblk b (hlt b t B.owned) (by rw [B.owned]; intro h; injection h with h; exact hts h)
      refine ⟨b, cells, g2.trans B.owned, fun b' hb' => B.only b' (honly b' t hb' hts), by rw [g1]; exact B.heap, B.len, B.room, fun i e j x he hx => ?_⟩
      obtain ⟨u, hu, hr⟩ := B.rep i e j x he hx
      exact ⟨u, hu, hr.trans T⟩
  · exact (hblk b hb (by rcases ho with h | h <;> rw [h] <;> intro h <;> cases h)).1
  · exact (hblk b hb (by rw [hf]; intro h; cases h)).2.trans hf
  · have hb : b < w.heap.size := by
      rcases Nat.lt_or_ge b w.heap.size with h1 | h1
      · exact h1
      · have := H.fresh b h1; rw [h] at this; cases this
    exact (hblk b hb (by rw [h]; intro h; cases h)).2.trans h

/-! tops -/
inductive RepL (R : V → Value → Prop) : List V → List Value → Prop where
  | nil : RepL R [] []
  | cons {x u xs us} : R x u → RepL R xs us → RepL R (x :: xs) (u :: us)

def RepT1 (R : V → Value → Prop) : T → Value → Prop
  | .one x, u => R x u
  | .agg cs, u => ∃ us : List Value, u = .agg us.toArray ∧ RepL R cs us
  | .tup _, _ => False

inductive RepTs (R : V → Value → Prop) : List T → List Value → Prop where
  | nil : RepTs R [] []
  | cons {x u xs us} : RepT1 R x u → RepTs R xs us → RepTs R (x :: xs) (u :: us)

def RepT (R : V → Value → Prop) : T → Value → Prop
  | .tup ts, u => ∃ us : List Value, u = .tuple us.toArray ∧ RepTs R ts us
  | .one x, u => R x u
  | .agg cs, u => ∃ us : List Value, u = .agg us.toArray ∧ RepL R cs us

theorem RepT1.toT {R t u} (h : RepT1 R t u) : RepT R t u := by
  cases t with
  | one x => exact h
  | agg cs => exact h
  | tup ts => exact h.elim

theorem RepL.mono {R R' : V → Value → Prop} (H : ∀ x u, R x u → R' x u) {xs us} (h : RepL R xs us) : RepL R' xs us := by
  induction h with
  | nil => exact .nil
  | cons h _ ih => exact .cons (H _ _ h) ih
theorem RepT1.mono {R R' : V → Value → Prop} (H : ∀ x u, R x u → R' x u) {t u} (h : RepT1 R t u) : RepT1 R' t u := by
  cases t with
  | one x => exact H _ _ h
  | agg cs => obtain ⟨us, rfl, h⟩ := h; exact ⟨us, rfl, h.mono H⟩
  | tup ts => exact h
theorem RepTs.mono {R R' : V → Value → Prop} (H : ∀ x u, R x u → R' x u) {xs us} (h : RepTs R xs us) : RepTs R' xs us := by
  induction h with
  | nil => exact .nil
  | cons h _ ih => exact .cons (h.mono H) ih
theorem RepT.mono {R R' : V → Value → Prop} (H : ∀ x u, R x u → R' x u) {t u} (h : RepT R t u) : RepT R' t u := by
  cases t with
  | one x => exact H _ _ h
  | agg cs => obtain ⟨us, rfl, h⟩ := h; exact ⟨us, rfl, h.mono H⟩
  | tup ts => obtain ⟨us, rfl, h⟩ := h; exact ⟨us, rfl, h.mono H⟩

theorem RepL.length {R xs us} (h : RepL R xs us) : us.length = xs.length := by
  induction h with
  | nil => rfl
  | cons _ _ ih => simp [ih]
theorem RepL.get {R xs us} (h : RepL R xs us) : ∀ (j : Nat) x, xs[j]? = some x → ∃ u, us[j]? = some u ∧ R x u := by
  induction h with
  | nil => intro j x hx; simp at hx
  | cons hx _ ih =>
    intro j y hy
    cases j with
    | zero => simp at hy; subst hy; exact ⟨_, rfl, hx⟩
    | succ j => simp at hy; obtain ⟨u, hu, hr⟩ := ih j y hy; exact ⟨u, by simpa using hu, hr⟩
theorem RepTs.length {R xs us} (h : RepTs R xs us) : us.length = xs.length := by
  induction h with
  | nil => rfl
  | cons _ _ ih => simp [ih]
theorem RepTs.get {R xs us} (h : RepTs R xs us) : ∀ (j : Nat) x, xs[j]? = some x → ∃ u, us[j]? = some u ∧ RepT1 R x u := by
  induction h with
  | nil => intro j x hx; simp at hx
  | cons hx _ ih =>
    intro j y hy
    cases j with
    | zero => simp at hy; subst hy; exact ⟨_, rfl, hx⟩
    | succ j => simp at hy; obtain ⟨u, hu, hr⟩ := ih j y hy; exact ⟨u, by simpa using hu, hr⟩
theorem RepL.take {R xs us} (h : RepL R xs us) (n : Nat) : RepL R (xs.take n) (us.take n) := by
  induction h generalizing n with
  | nil => simp; exact .nil
  | cons hx _ ih => cases n with
    | zero => exact .nil
    | succ n => exact .cons hx (ih n)
theorem RepL.drop {R xs us} (h : RepL R xs us) (n : Nat) : RepL R (xs.drop n) (us.drop n) := by
  induction h generalizing n with
  | nil => simp; exact .nil
  | cons hx h ih => cases n with
    | zero => exact .cons hx h
    | succ n => exact ih n
theorem RepL.append {R xs us ys vs} (h : RepL R xs us) (k : RepL R ys vs) : RepL R (xs ++ ys) (us ++ vs) := by
  induction h with
  | nil => exact k
  | cons hx _ ih => exact .cons hx ih
theorem RepL.of_get {R : V → Value → Prop} : ∀ (xs : List V) (us : List Value), us.length = xs.length → (∀ (j : Nat) x, xs[j]? = some x → ∃ u, us[j]? = some u ∧ R x u) → RepL R xs us
  | [], [], _, _ => .nil
  | x :: xs, u :: us, hl, h => .cons (by obtain ⟨u', hu, hr⟩ := h 0 x rfl; simp at hu; subst hu; exact hr) (RepL.of_get xs us (by simpa using hl) (fun j y hy => by simpa using h (j + 1) y (by simpa using hy)))
  | [], _ :: _, hl, _ => by simp at hl
  | _ :: _, [], hl, _ => by simp at hl

theorem allDef_get : ∀ {cs : List V}, allDef cs = true → ∀ x ∈ cs, x.def = true
  | [], _, x, hx => by simp at hx
  | v :: r, h, x, hx => by
    simp only [allDef] at h
    cases hv : v.def with
    | false => rw [hv] at h; cases h
    | true =>
      rw [hv] at h
      rcases List.mem_cons.1 hx with rfl | hx
      · exact hv
      · exact allDef_get h x hx
theorem treeCells_get : ∀ {cs : List V}, treeCells cs = true → ∀ x ∈ cs, x.tree = true
  | [], _, x, hx => by simp at hx
  | v :: r, h, x, hx => by
    simp only [treeCells] at h
    cases hv : v.tree with
    | false => rw [hv] at h; cases h
    | true =>
      rw [hv] at h
      rcases List.mem_cons.1 hx with rfl | hx
      · exact hv
      · exact treeCells_get h x hx

theorem cells_one {u : Value} (h : u.oneCell' = true) : u.cells = #[u] := by cases u <;> first | rfl | (simp [Value.oneCell'] at h)

/-- the cells of a top value, in Lean and in memory -/
theorem RepT.cells {w own ob t u cs} (h : RepT (RepV w own ob) t u) (hc : t.cells = some cs) : RepL (RepV w own ob) cs u.cells.toList ∧ (∀ v ∈ u.cells.toList, v.oneCell' = true) ∧ allDef cs = true := by
  have key : ∀ {cs : List V} {us : List Value}, RepL (RepV w own ob) cs us → allDef cs = true → ∀ v ∈ us, v.oneCell' = true := by
    intro cs us hr
    induction hr with
    | nil => intro _ v hv; simp at hv
    | cons hx _ ih =>
      intro hd v hv
      simp only [allDef] at hd
      split at hd
      · rename_i hdx
        rcases List.mem_cons.1 hv with rfl | hv
        · exact RepV.oneC hdx hx
        · exact ih hd v hv
      · cases hd
  cases t with
  | one x =>
    simp only [T.cells] at hc
    split at hc
    · rename_i hd
      injection hc with hc; subst hc
      have h1 := RepV.oneC hd h
      rw [cells_one h1]
      exact ⟨.cons h .nil, by simpa using h1, by simp [allDef, hd]⟩
    · cases hc
  | agg cs' =>
    simp only [T.cells] at hc
    split at hc
    · rename_i hd
      injection hc with hc; subst hc
      obtain ⟨us, rfl, h⟩ := h
      exact ⟨by simpa [Value.cells] using h, by simpa [Value.cells] using key h hd, hd⟩
    · cases hc
  | tup ts => simp [T.cells] at hc

end Go.Abs
