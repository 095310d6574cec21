/-
  How the abstract machine's values stand to the model's memory: what represents what, and that it lasts.
  Conditions: none; definitions and lemmas.
-/
import Derived.Test.YtnnjmbblpmghfaaGreatA
import Derived.Deep.MidRow
import Derived.Maps.AppendAt
namespace Go.Ab

inductive All2 {α β : Type} (R : α → β → Prop) : List α → List β → Prop
  | nil : All2 R [] []
  | cons {a b as bs} : R a b → All2 R as bs → All2 R (a :: as) (b :: bs)

theorem All2.len {α β : Type} {R : α → β → Prop} {as : List α} {bs : List β} (h : All2 R as bs) : as.length = bs.length := by
  induction h with
  | nil => rfl
  | cons _ _ ih => simp [ih]
theorem All2.mono {α β : Type} {R S : α → β → Prop} {as : List α} {bs : List β} (h : All2 R as bs) (f : ∀ a b, a ∈ as → R a b → S a b) : All2 S as bs := by
  induction h with
  | nil => exact .nil
  | cons h _ ih => exact .cons (f _ _ (by simp) h) (ih fun a b ha => f a b (by simp [ha]))
theorem All2.get {α β : Type} {R : α → β → Prop} {as : List α} {bs : List β} (h : All2 R as bs) : ∀ (j : Nat) (a : α), as[j]? = some a → ∃ b, bs[j]? = some b ∧ R a b := by
  induction h with
  | nil => intro j a h; simp at h
  | cons h _ ih =>
    intro j a hj
    cases j with
    | zero => simp at hj; subst hj; exact ⟨_, by simp, h⟩
    | succ j => simpa using ih j a (by simpa using hj)
theorem All2.get' {α β : Type} {R : α → β → Prop} {as : List α} {bs : List β} (h : All2 R as bs) : ∀ (j : Nat) (b : β), bs[j]? = some b → ∃ a, as[j]? = some a ∧ R a b := by
  induction h with
  | nil => intro j a h; simp at h
  | cons h _ ih =>
    intro j a hj
    cases j with
    | zero => simp at hj; subst hj; exact ⟨_, by simp, h⟩
    | succ j => simpa using ih j a (by simpa using hj)
theorem All2.of_get {α β : Type} {R : α → β → Prop} : ∀ {as : List α} {bs : List β}, as.length = bs.length → (∀ (j : Nat) a b, as[j]? = some a → bs[j]? = some b → R a b) → All2 R as bs
  | [], [], _, _ => .nil
  | a :: as, b :: bs, hl, h => .cons (h 0 a b rfl rfl) (All2.of_get (by simpa using hl) fun j x y hx hy => h (j + 1) x y (by simpa using hx) (by simpa using hy))
  | [], b :: bs, hl, _ => by simp at hl
  | a :: as, [], hl, _ => by simp at hl
theorem All2.map_left {α β γ : Type} {R : γ → β → Prop} (f : α → γ) {as : List α} {bs : List β} (h : All2 (fun a b => R (f a) b) as bs) : All2 R (as.map f) bs := by
  induction h with
  | nil => exact .nil
  | cons h _ ih => exact .cons h ih
theorem All2.app {α β : Type} {R : α → β → Prop} {as as' : List α} {bs bs' : List β} (h : All2 R as bs) (h' : All2 R as' bs') : All2 R (as ++ as') (bs ++ bs') := by
  induction h with
  | nil => exact h'
  | cons h _ ih => exact .cons h ih
theorem All2.take {α β : Type} {R : α → β → Prop} {as : List α} {bs : List β} (h : All2 R as bs) : ∀ n, All2 R (as.take n) (bs.take n) := by
  induction h with
  | nil => intro n; simp; exact .nil
  | cons h _ ih => intro n; cases n with
    | zero => simp; exact .nil
    | succ n => simp only [List.take_succ_cons]; exact .cons h (ih n)
theorem All2.drop {α β : Type} {R : α → β → Prop} {as : List α} {bs : List β} (h : All2 R as bs) : ∀ n, All2 R (as.drop n) (bs.drop n) := by
  induction h with
  | nil => intro n; simp; exact .nil
  | cons h h' ih => intro n; cases n with
    | zero => simpa using .cons h h'
    | succ n => simpa using ih n
theorem All2.set {α β : Type} {R : α → β → Prop} {as : List α} {bs : List β} (h : All2 R as bs) : ∀ (n : Nat) a b, R a b → All2 R (as.set n a) (bs.set n b) := by
  induction h with
  | nil => intro n a b _; simp; exact .nil
  | cons h h' ih => intro n a b hab; cases n with
    | zero => simpa using .cons hab h'
    | succ n => simpa using .cons h (ih n a b hab)

abbrev Mem := Nat → Nat → Option Value

/-- Pure data in memory that does not change. -/
inductive RepD (M : Mem) : D → Value → Prop
  | b (x : Bool) : RepD M (.b x) (.bool x)
  | i (k : IntKind) (n : Int) : RepD M (.i k n) (.int k n)
  | s (x : ByteArray) : RepD M (.s x) (.string x)
  | l0 (sz : Nat) (a : Option Addr) (c : Nat) : RepD M (.l sz []) (.slice a 0 c)
  | l (sz : Nat) (rows : List (List D)) (g o cap : Nat) (f : Nat → Value) (hne : rows ≠ []) (hcap : rows.length ≤ cap) (hsz : ∀ r ∈ rows, r.length = sz)
      (hM : ∀ k x, rows.flatten[k]? = some x → M g (o + k) = some (f k)) (hR : ∀ k x, rows.flatten[k]? = some x → RepD M x (f k)) :
      RepD M (.l sz rows) (.slice (some ⟨g, o, none⟩) rows.length cap)

theorem RepD.mono {M M' : Mem} (h : ∀ b o v, M b o = some v → M' b o = some v) {x : D} {v : Value} (r : RepD M x v) : RepD M' x v := by
  induction r with
  | b => exact .b _
  | i => exact .i _ _
  | s => exact .s _
  | l0 => exact .l0 _ _ _
  | l sz rows g o cap f hne hcap hsz hM _ ih => exact .l sz rows g o cap f hne hcap hsz (fun k x hk => h _ _ _ (hM k x hk)) ih
theorem RepD.one {M : Mem} {x : D} {v : Value} (r : RepD M x v) : v.oneCell' = true := by cases r <;> rfl

/-- The ghost: which block a box is; what memory stays; whose a list that grows is. -/
structure Gh where
  β : Nat → Option Nat
  M : Mem
  Ow : Nat → Nat → Option Nat

def PtrRep (g : Gh) (p : Nat × Nat) (v : Value) : Prop := ∃ b, g.β p.1 = some b ∧ v = .pointer (some ⟨b, p.2, none⟩)

def RepC (g : Gh) : C → Value → Prop
  | .d x, v => RepD g.M x v
  | .nil _, v => v = .slice none 0 0
  | .nilp, v => v = .pointer none
  | .ptr id off, v => PtrRep g (id, off) v
  | .cptr row off, v => ∃ (b o : Nat) (f : Nat → Value), v = .pointer (some ⟨b, o + off, none⟩) ∧ ∀ k x, row[k]? = some x → g.M b (o + k) = some (f k) ∧ RepD g.M x (f k)
  | .view id off len _, v => ∃ b cap, g.β id = some b ∧ v = .slice (some ⟨b, off, none⟩) len cap ∧ len ≤ cap
  | .own _ sz rows, v => RepD g.M (.l sz rows) v
  | .fn f fs cs, v => ∃ vf vc, v = .func (.func f) vf.toArray vc.toArray ∧ All2 (PtrRep g) fs vf ∧ All2 (PtrRep g) cs vc
  | .undef, v => v.oneCell' = true

theorem RepC.one {g : Gh} {x : C} {v : Value} (r : RepC g x v) : v.oneCell' = true := by
  cases x with
  | d x => exact RepD.one r
  | nil => simp only [RepC] at r; subst r; rfl
  | nilp => simp only [RepC] at r; subst r; rfl
  | ptr id off => obtain ⟨b, _, rfl⟩ := r; rfl
  | cptr row off => obtain ⟨b, o, f, rfl, _⟩ := r; rfl
  | view id off len sz => obtain ⟨b, cap, _, rfl, _⟩ := r; rfl
  | own e sz rows => exact RepD.one r
  | fn f fs cs => obtain ⟨vf, vc, rfl, _⟩ := r; rfl
  | undef => exact r

structure Gh.le (g g' : Gh) : Prop where
  β : ∀ i b, g.β i = some b → g'.β i = some b
  M : ∀ b o v, g.M b o = some v → g'.M b o = some v
theorem Gh.le.refl (g : Gh) : g.le g := ⟨fun _ _ h => h, fun _ _ _ h => h⟩
theorem PtrRep.mono {g g' : Gh} {p : Nat × Nat} (h : ∀ b, g.β p.1 = some b → g'.β p.1 = some b) {v : Value} (r : PtrRep g p v) : PtrRep g' p v := by
  obtain ⟨b, hb, e⟩ := r; exact ⟨b, h b hb, e⟩

theorem le_bdL {p : Nat × Nat} : ∀ {l : List (Nat × Nat)}, p ∈ l → p.1 + 1 ≤ bdL l
  | x :: xs, h => by
    simp only [bdL]
    rcases List.mem_cons.1 h with rfl | h
    · omega
    · have := le_bdL h; omega

/-- What holds of a ghost holds of a greater one; of the boxes those below a bound suffice. -/
theorem RepC.mono' {g g' : Gh} (n : Nat) (hβ : ∀ i b, i < n → g.β i = some b → g'.β i = some b) (hM : ∀ b o v, g.M b o = some v → g'.M b o = some v) {x : C} (hx : bd x ≤ n) {v : Value} (r : RepC g x v) : RepC g' x v := by
  cases x with
  | d x => exact RepD.mono hM r
  | nil => exact r
  | nilp => exact r
  | ptr id off => exact PtrRep.mono (fun b h => hβ _ b (by simp only [bd] at hx; omega) h) r
  | cptr row off =>
    obtain ⟨b, o, f, e, h⟩ := r
    exact ⟨b, o, f, e, fun k x hk => ⟨hM _ _ _ (h k x hk).1, RepD.mono hM (h k x hk).2⟩⟩
  | view id off len sz => obtain ⟨b, cap, hb, e⟩ := r; exact ⟨b, cap, hβ _ b (by simp only [bd] at hx; omega) hb, e⟩
  | own e sz rows => exact RepD.mono hM r
  | fn f fs cs =>
    obtain ⟨vf, vc, e, h1, h2⟩ := r
    simp only [bd] at hx
    exact ⟨vf, vc, e, h1.mono fun p _ hp => PtrRep.mono fun b h => hβ _ b (by have := le_bdL hp; omega) h, h2.mono fun p _ hp => PtrRep.mono fun b h => hβ _ b (by have := le_bdL hp; omega) h⟩
  | undef => exact r
theorem RepC.mono {g g' : Gh} (h : g.le g') {x : C} {v : Value} (r : RepC g x v) : RepC g' x v :=
  RepC.mono' (bd x) (fun i b _ => h.β i b) h.M (Nat.le_refl _) r

def noOwnC : C → Prop
  | .own _ _ _ => False
  | _ => True
/-- A cell that owns nothing. -/
def RepN (g : Gh) (x : C) (v : Value) : Prop := RepC g x v ∧ noOwnC x
def Rep1 (g : Gh) : V → Value → Prop
  | .c x, v => RepN g x v
  | .agg xs, v => ∃ vs : List Value, v = .agg vs.toArray ∧ All2 (RepN g) xs vs
  | .tup _, _ => False
def RepV (g : Gh) : V → Value → Prop
  | .c .undef, _ => True
  | .c x, v => RepC g x v
  | .agg xs, v => ∃ vs : List Value, v = .agg vs.toArray ∧ All2 (RepN g) xs vs
  | .tup xs, v => ∃ vs : List Value, v = .tuple vs.toArray ∧ All2 (Rep1 g) xs vs

theorem RepN.mono {g g' : Gh} (h : g.le g') {x : C} {v : Value} (r : RepN g x v) : RepN g' x v := ⟨RepC.mono h r.1, r.2⟩
theorem Rep1.mono {g g' : Gh} (h : g.le g') {x : V} {v : Value} (r : Rep1 g x v) : Rep1 g' x v := by
  cases x with
  | c x => exact RepN.mono h r
  | agg xs => obtain ⟨vs, e, h1⟩ := r; exact ⟨vs, e, h1.mono fun _ _ _ => RepN.mono h⟩
  | tup => exact r
theorem Rep1.toV {g : Gh} {x : V} {v : Value} (r : Rep1 g x v) : RepV g x v := by
  cases x with
  | c x => cases x <;> first | exact r.1 | trivial
  | agg => exact r
  | tup => exact r.elim
theorem RepC.toV {g : Gh} {x : C} {v : Value} (r : RepC g x v) : RepV g (.c x) v := by
  cases x <;> first | exact r | trivial
theorem RepV.toC {g : Gh} {x : C} {v : Value} (hx : x ≠ .undef) (r : RepV g (.c x) v) : RepC g x v := by
  cases x <;> first | exact r | exact absurd rfl hx
theorem RepV.mono {g g' : Gh} (h : g.le g') {x : V} {v : Value} (r : RepV g x v) : RepV g' x v := by
  cases x with
  | c x =>
    by_cases hx : x = .undef
    · subst hx; trivial
    · exact RepC.toV (RepC.mono h (RepV.toC hx r))
  | agg xs => obtain ⟨vs, e, h1⟩ := r; exact ⟨vs, e, h1.mono fun _ _ _ => RepN.mono h⟩
  | tup xs => obtain ⟨vs, e, h1⟩ := r; exact ⟨vs, e, h1.mono fun _ _ _ => Rep1.mono h⟩

/-- A list that grows: its row in memory is its owner's alone. -/
def OwnAt (w : World) (M : Mem) (b? : Option Nat) (e sz : Nat) (rows : List (List D)) (v : Value) : Prop :=
  ∃ cells, w.ownsRow 0 e sz v rows.length cells ∧ v.ownBlock = b? ∧ 0 < sz ∧ ∀ b, b? = some b → ∀ o, rows.length * sz ≤ o → M b o = none
def OwnC (w : World) (M : Mem) (b? : Option Nat) : C → Value → Prop
  | .own e sz rows, v => OwnAt w M b? e sz rows v
  | _, _ => True
def OwnV (w : World) (M : Mem) (b? : Option Nat) : V → Value → Prop
  | .c x, v => OwnC w M b? x v
  | _, _ => True

theorem ownsRow_congr {w w' : World} {base e sz n : Nat} {v : Value} {xs : List Value} (h : w.ownsRow base e sz v n xs) (hb : ∀ b, v.ownBlock = some b → w'.heap[b]? = w.heap[b]?) : w'.ownsRow base e sz v n xs := by
  refine ⟨h.1, ?_⟩
  rcases h.2 with hn | ⟨g, cap, cur, rfl, h1, h2, h3⟩
  · exact .inl hn
  · exact .inr ⟨g, cap, cur, rfl, h1, by rw [hb g rfl]; exact h2, h3⟩
theorem OwnAt.congr {w w' : World} {M M' : Mem} {b? : Option Nat} {e sz : Nat} {rows : List (List D)} {v : Value} (h : OwnAt w M b? e sz rows v)
    (hb : ∀ b, b? = some b → w'.heap[b]? = w.heap[b]? ∧ ∀ o, M' b o = M b o) : OwnAt w' M' b? e sz rows v := by
  obtain ⟨cells, h1, h2, h3, h4⟩ := h
  exact ⟨cells, ownsRow_congr h1 fun b hv => (hb b (h2 ▸ hv)).1, h2, h3, fun b hbb o ho => by rw [(hb b hbb).2]; exact h4 b hbb o ho⟩
theorem OwnC.congr {w w' : World} {M M' : Mem} {b? : Option Nat} {x : C} {v : Value} (h : OwnC w M b? x v)
    (hb : ∀ b, b? = some b → w'.heap[b]? = w.heap[b]? ∧ ∀ o, M' b o = M b o) : OwnC w' M' b? x v := by
  cases x <;> first | exact OwnAt.congr h hb | trivial
theorem OwnV.congr {w w' : World} {M M' : Mem} {b? : Option Nat} {x : V} {v : Value} (h : OwnV w M b? x v)
    (hb : ∀ b, b? = some b → w'.heap[b]? = w.heap[b]? ∧ ∀ o, M' b o = M b o) : OwnV w' M' b? x v := by
  cases x <;> first | exact OwnC.congr h hb | trivial

def BoxRep (g : Gh) (w : World) (id b : Nat) (bx : Box) : Prop :=
  ∃ arr T, w.heap[b]? = some (.cells arr T (0, 0)) ∧ bx.cells.length ≤ arr.size ∧
    ∀ j c, bx.cells[j]? = some c → ∃ v, arr[j]? = some v ∧ RepC g c v ∧ OwnC w g.M (g.Ow id j) c v

structure HInv (g : Gh) (H : Heap) (w : World) : Prop where
  mem : ∀ b o v, g.M b o = some v → w.cell? ⟨b, o, none⟩ = some v
  dom : ∀ i b, g.β i = some b → i < H.length
  box : ∀ i bx b, H[i]? = some bx → g.β i = some b → BoxRep g w i b bx
  liv : ∀ i bx b, H[i]? = some bx → g.β i = some b → bx.live = true → ∀ o, g.M b o = none
  bnd : ∀ i bx, H[i]? = some bx → ∀ c ∈ bx.cells, bd c ≤ i + 1
  inj : ∀ i j b, g.β i = some b → g.β j = some b → i = j
  owinj : ∀ i o j p b, g.Ow i o = some b → g.Ow j p = some b → i = j ∧ o = p
  owβ : ∀ i o j b, g.Ow i o = some b → g.β j = some b → False
  owlt : ∀ i o b, g.Ow i o = some b → b < w.heap.size

theorem HInv.βlt {g : Gh} {H : Heap} {w : World} (h : HInv g H w) {i b : Nat} (hb : g.β i = some b) : b < w.heap.size := by
  obtain ⟨arr, T, h1, _⟩ := h.box i (H[i]'(h.dom i b hb)) b (List.getElem?_eq_getElem _) hb
  exact (Array.getElem?_eq_some_iff.1 h1).1

/-- What a frame knows. 'T' : the blocks of boxes and of lists that grow, which the frame was handed. -/
structure Fx where
  nt : Nat
  g0 : Gh
  w0 : World
  T : Nat → Prop
  n0 : Nat

structure Same (w w' : World) : Prop where
  os : w'.os = w.os
  tape : w'.tape = w.tape
  output : w'.output = w.output
  size : w.heap.size ≤ w'.heap.size
theorem Same.refl (w : World) : Same w w := ⟨rfl, rfl, rfl, Nat.le_refl _⟩
theorem Same.trans {a b c : World} (h : Same a b) (k : Same b c) : Same a c := ⟨k.os.trans h.os, k.tape.trans h.tape, k.output.trans h.output, Nat.le_trans h.size k.size⟩

structure EInv (g : Gh) (S : Nat → Option Nat) (e : Env) (a : Act) (w : World) : Prop where
  rep : ∀ t, RepV g (e t) (a.tmps.getD t undef)
  own : ∀ t, OwnV w g.M (S t) (e t) (a.tmps.getD t undef)
  inj : ∀ t u b, S t = some b → S u = some b → t = u
  β : ∀ t i b, S t = some b → g.β i = some b → False
  Ow : ∀ t i o b, S t = some b → g.Ow i o = some b → False
  lt : ∀ t b, S t = some b → b < w.heap.size

structure SimG (fx : Fx) (g : Gh) (S : Nat → Option Nat) (s : St) (a : Act) (w : World) : Prop where
  h : HInv g s.H w
  e : EInv g S s.env a w
  sz : a.tmps.size = fx.nt
  defs : a.defers = []
  same : Same fx.w0 w
  n0 : fx.n0 ≤ s.H.length
  M : ∀ b o v, fx.g0.M b o = some v → g.M b o = some v
  keep : ∀ b, b < fx.w0.heap.size → ¬ fx.T b → w.heap[b]? = fx.w0.heap[b]? ∧ ∀ o, g.M b o = fx.g0.M b o
  βold : ∀ i, i < fx.n0 → g.β i = fx.g0.β i
  βT : ∀ i b, g.β i = some b → fx.T b ∨ fx.w0.heap.size ≤ b
  OwT : ∀ i o b, g.Ow i o = some b → fx.T b ∨ fx.w0.heap.size ≤ b
  ST : ∀ t b, S t = some b → fx.T b ∨ fx.w0.heap.size ≤ b

def Sim (fx : Fx) (s : St) (a : Act) (w : World) : Prop := ∃ g S, SimG fx g S s a w

/-! ### Copies -/
theorem clC_rep {g : Gh} {x : C} {v : Value} (r : RepC g x v) : RepC g (clC x) v := by
  cases x <;> first | exact r
theorem cl_rep {g : Gh} {x : V} {v : Value} (r : RepV g x v) : RepV g (cl x) v := by
  cases x with
  | c x => cases x <;> first | exact r | trivial
  | agg xs => exact r
  | tup xs => exact r
theorem nmC_rep {g : Gh} {x : C} {v : Value} (r : RepC g x v) : RepC g (nmC x) v := by
  cases x <;> first | exact r | (simp only [RepC] at r; subst r; exact RepD.l0 _ _ _)
theorem noOwnC_clC (x : C) : noOwnC (clC x) := by cases x <;> trivial
theorem noOwnC_nmC (x : C) : noOwnC (nmC x) := by cases x <;> trivial
theorem nmN_rep {g : Gh} {x : C} {v : Value} (r : RepC g x v) : RepN g (nmC x) v := ⟨nmC_rep r, noOwnC_nmC x⟩
theorem clN_rep {g : Gh} {x : C} {v : Value} (r : RepC g x v) : RepN g (clC x) v := ⟨clC_rep r, noOwnC_clC x⟩
theorem nm_rep {g : Gh} {x : V} {v : Value} (r : RepV g x v) : RepV g (nm x) v := by
  cases x with
  | c x => cases x <;> first | exact r | trivial | (simp only [RepV, RepC] at r; subst r; exact RepD.l0 _ _ _)
  | agg xs => obtain ⟨vs, e, h⟩ := r; exact ⟨vs, e, All2.map_left nmC (h.mono fun _ _ _ h => nmN_rep h.1)⟩
  | tup xs => exact r
theorem toD_rep {g : Gh} {x : C} {y : D} (hy : toD x = some y) {v : Value} (r : RepC g x v) : RepD g.M y v := by
  cases x <;> simp only [toD] at hy <;> first | (cases hy; exact r) | (cases hy; simp only [RepC] at r; subst r; exact RepD.l0 _ _ _) | cases hy

def noOwn : V → Prop
  | .c (.own _ _ _) => False
  | _ => True
theorem OwnV.of_noOwn {w : World} {M : Mem} {b? : Option Nat} {x : V} {v : Value} (h : noOwn x) : OwnV w M b? x v := by
  cases x with
  | c x => cases x <;> first | trivial | exact h.elim
  | agg => trivial
  | tup => trivial
theorem noOwn_cl (x : V) : noOwn (cl x) := by
  cases x with
  | c x => cases x <;> trivial
  | agg => trivial
  | tup => trivial

/-! ### The frame: one slot is written -/
theorem getD_put {a : Act} {d t : Nat} {v : Value} (hd : d < a.tmps.size) : (a.put (some d) v).tmps.getD t undef = if t = d then v else a.tmps.getD t undef := by
  simp only [Act.put, Array.getD_eq_getD_getElem?, Array.getElem?_setIfInBounds]
  by_cases h : t = d
  · subst h; simp [hd]
  · rw [if_neg (fun e => h e.symm), if_neg h]
theorem size_put {a : Act} {d : Option Nat} {v : Value} : (a.put d v).tmps.size = a.tmps.size := by cases d <;> simp [Act.put]
theorem defers_put {a : Act} {d : Option Nat} {v : Value} : (a.put d v).defers = a.defers := by cases d <;> simp [Act.put]

/-- A slot is written; the world as it was. The slot's row, if the value owns one, is 'b?'. -/
theorem SimG.put {fx : Fx} {g : Gh} {S : Nat → Option Nat} {s : St} {a : Act} {w : World} (h : SimG fx g S s a w) {d : Nat} (hd : d < fx.nt) {x : V} {v : Value} (hr : RepV g x v) (ho : noOwn x) :
    SimG fx g (fun t => if t = d then none else S t) ⟨upd s.env d x, s.H⟩ (a.put (some d) v) w where
  h := h.h
  e := by
    have hd' : d < a.tmps.size := by rw [h.sz]; exact hd
    constructor
    · intro t
      rw [getD_put hd']
      by_cases e : t = d
      · simp only [upd, if_pos e]; exact hr
      · simp only [upd, if_neg e]; exact h.e.rep t
    · intro t
      rw [getD_put hd']
      by_cases e : t = d
      · simp only [upd, if_pos e]; exact OwnV.of_noOwn ho
      · simp only [upd, if_neg e]; exact h.e.own t
    · intro t u b ht hu
      by_cases e : t = d
      · simp [e] at ht
      · by_cases e' : u = d
        · simp [e'] at hu
        · simp only [if_neg e] at ht; simp only [if_neg e'] at hu; exact h.e.inj t u b ht hu
    · intro t i b ht hi
      by_cases e : t = d
      · simp [e] at ht
      · simp only [if_neg e] at ht; exact h.e.β t i b ht hi
    · intro t i o b ht hi
      by_cases e : t = d
      · simp [e] at ht
      · simp only [if_neg e] at ht; exact h.e.Ow t i o b ht hi
    · intro t b ht
      by_cases e : t = d
      · simp [e] at ht
      · simp only [if_neg e] at ht; exact h.e.lt t b ht
  sz := by rw [size_put]; exact h.sz
  defs := by rw [defers_put]; exact h.defs
  same := h.same
  n0 := h.n0
  M := h.M
  keep := h.keep
  βold := h.βold
  βT := h.βT
  OwT := h.OwT
  ST := by
    intro t b ht
    by_cases e : t = d
    · simp [e] at ht
    · simp only [if_neg e] at ht; exact h.ST t b ht

end Go.Ab
