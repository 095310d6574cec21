/-
  The quiet operations: what the abstract machine reckons is what the model's operation yields.
  Conditions: none; definitions and lemmas.
-/
import Derived.Test.YtnnjmbblpmghfaaGreatB
import Derived.Laws.StructEq
set_option linter.unusedSimpArgs false
set_option linter.unusedVariables false
namespace Go.Ab

/-! ### What fits what, by text -/
def constOk : Value → C → Bool
  | .int k n, .d (.i k' n') => k == k' && n == n'
  | .bool x, .d (.b y) => x == y
  | .string x, .d (.s y) => decide (x.data.toList = y.data.toList)
  | .slice none 0 0, .nil _ => true
  | .pointer none, .nilp => true
  | .nilFunc, .undef => true
  | _, _ => false
def opdOk : Operand → Opd → Bool
  | .tmp n, .t m => n == m
  | .const v, .k c => constOk v c
  | .func f, .k (.fn f' [] []) => f == f'
  | _, _ => false
def opdsOk : List Operand → List Opd → Bool
  | [], [] => true
  | x :: xs, y :: ys => opdOk x y && opdsOk xs ys
  | _, _ => false
def optOk : Option Operand → Option Opd → Bool
  | none, none => true
  | some x, some y => opdOk x y
  | _, _ => false
def constsOk : List Value → List C → Bool
  | [], [] => true
  | x :: xs, y :: ys => constOk x y && constsOk xs ys
  | _, _ => false

section
variable (P : Program)
def isRowT (t : TypeId) : Bool := match P.underlying t with | some d => d.isRow | none => false
def isPlainT (t : TypeId) : Bool := match P.underlying t with | some d => !d.isRow | none => false
def sizeT (t n : Nat) : Bool := (P.info? t).any fun i => i.size == n
def zeroT (t : Nat) (z : List C) : Bool := (P.info? t).any fun i => i.zero.any fun v => constsOk v.cells.toList z
def sliceT (t e : Nat) : Bool := match P.underlying t with | some (.slice e') => e' == e | _ => false
def partsOk (place : Nat → Option (Nat × Nat)) : List (Nat × Operand) → List (Nat × Nat × Opd) → Bool
  | [], [] => true
  | (i, x) :: xs, (off, n, y) :: ys => (place i == some (off, n)) && opdOk x y && (n != 0 && partsOk place xs ys)
  | _, _ => false
def eqFieldsOk (P : Program) : Nat → List Field → Bool
  | _, [] => true
  | j, f :: fs => f.offset == j && f.name != "_" && (match P.underlying f.type with | some (.int _) => true | _ => false) && eqFieldsOk P (j + 1) fs
def placesOf (fields : Array Field) (i : Nat) : Option (Nat × Nat) := match fields[i]? with
  | some f => (P.info? f.type).map fun i => (f.offset, i.size)
  | none => none

/-- Is this quiet operation that one? -/
def chkQ : Op → Q → Bool
  | .move x, .mv y => opdOk x y
  | .assign x, .mv y => opdOk x y
  | .pick c a b, .pick c' a' b' => opdOk c c' && opdOk a a' && opdOk b b'
  | .build t ps, .bld z ps' => zeroT P t z && (match P.underlying t with
    | some (.struct fields) => (fields.toList.all fun f => (P.info? f.type).isSome) && partsOk (placesOf P fields) ps.toList ps'
    | some (.array _ elem) => match P.info? elem with
      | some i => partsOk (fun j => some (j * i.size, i.size)) ps.toList ps'
      | none => false
    | _ => false)
  | .load t x, .ld y => isPlainT P t && opdOk x y
  | .load t x, .lda n y => isRowT P t && sizeT P t n && opdOk x y
  | .nilCheck x, .nck y => opdOk x y
  | .binOp op _ x y _, .bin op' x' y' => op == op' && opdOk x x' && opdOk y y'
  | .binOp op t x y _, .eqb neg x' y' => (op == if neg then BinOp.neq else BinOp.eql) && opdOk x x' && opdOk y y' && (match P.underlying t with | some .bool => true | _ => false)
  | .binOp op _ x y _, .eqs neg x' y' => (op == if neg then BinOp.neq else BinOp.eql) && opdOk x x' && opdOk y y'
  | .binOp op t x y _, .eqa neg n x' y' => (op == if neg then BinOp.neq else BinOp.eql) && opdOk x x' && opdOk y y' && !P.stoodInHeld t && !P.eqGuardType P.depth t &&
      (match P.underlying t with | some (.struct fs) => eqFieldsOk P 0 fs.toList && fs.size == n | _ => false)
  | .binOp op t x (.const (.slice none 0 0)) _, .eqn x' => op == .eql && opdOk x x' && (match P.underlying t with
    | some (.slice _) => true
    | _ => false)
  | .binOp op t x (.const (.pointer none)) _, .eqp x' => op == .eql && opdOk x x' && (match P.underlying t with
    | some (.pointer _) => true
    | _ => false)
  | .unOp .neg _ x, .neg y => opdOk x y
  | .unOp .not _ x, .not y => opdOk x y
  | .convert src dst x, .cvi k y => opdOk x y && (P.underlying src).isSome && (match P.underlying dst with | some (.int k') => k == k' | _ => false)
  | .makeFunc (.func f) fs cs, .mkf f' fs' cs' => f == f' && opdsOk fs.toList fs' && opdsOk cs.toList cs'
  | .fieldAddr t x j, .fad off y => opdOk x y && (match P.underlying t with
    | some (.struct fields) => match fields[j]? with
      | some f => f.offset == off && (P.info? f.type).any fun i => i.size != 0
      | none => false
    | _ => false)
  | .indexAddr t x j, .ias sz x' j' => opdOk x x' && opdOk j j' && (match P.underlying t with
    | some (.slice e) => sizeT P e sz
    | _ => false)
  | .indexAddr t x j, .iaa n sz x' j' => opdOk x x' && opdOk j j' && (match P.underlying t with
    | some (.array n' e) => n' == n && sizeT P e sz
    | _ => false)
  | .index t x j, .ix n x' j' => opdOk x x' && opdOk j j' && (match P.underlying t with
    | some (.array n' e) => n' == n && sizeT P e 1 && isPlainT P e
    | _ => false)
  | .index t x j, .ixa n sz x' j' => opdOk x x' && opdOk j j' && (match P.underlying t with
    | some (.array n' e) => n' == n && sizeT P e sz && isRowT P e
    | _ => false)
  | .field t x j, .fld off y => opdOk x y && (match P.underlying t with
    | some (.struct fields) => match fields[j]? with
      | some f => f.offset == off && isPlainT P f.type
      | none => false
    | _ => false)
  | .slice t x lo hi none, .sls sz x' lo' hi' => opdOk x x' && optOk lo lo' && optOk hi hi' && (match P.underlying t with
    | some (.slice e) => sizeT P e sz
    | _ => false)
  | .slice t x lo hi none, .sla n sz x' lo' hi' => opdOk x x' && optOk lo lo' && optOk hi hi' && (match P.underlying t with
    | some (.array n' e) => n' == n && sizeT P e sz
    | _ => false)
  | .extract x j, .ext y j' => opdOk x y && j == j'
  | .call { callee := .builtin .len, args, argTypes }, .len y => (match args.toList, argTypes.toList with
    | [x], [t] => opdOk x y && (match P.underlying t with | some (.slice _) => true | _ => false)
    | _, _ => false)
  | .call { callee := .builtin b, args, .. }, .mm mx y z => (b == if mx then Builtin.max else Builtin.min) && (match args.toList with
    | [x, u] => opdOk x y && opdOk u z
    | _ => false)
  | _, _ => false
end

/-! ### Operands -/
theorem constOk_rep {g : Gh} {v : Value} {c : C} (h : constOk v c = true) : RepC g c v := by
  unfold constOk at h
  split at h
  · simp only [Bool.and_eq_true, beq_iff_eq] at h; obtain ⟨rfl, rfl⟩ := h; exact .i _ _
  · simp only [beq_iff_eq] at h; subst h; exact .b _
  · rename_i x y
    have h : x = y := by
      have := of_decide_eq_true h
      cases x; cases y; simp only [ByteArray.mk.injEq]; exact Array.toList_inj.1 this
    subst h; exact .s _
  · rfl
  · rfl
  · rfl
  · cases h
theorem ev_rep {g : Gh} {S : Nat → Option Nat} {e : Env} {a : Act} {w : World} (h : EInv g S e a w) {x : Operand} {y : Opd} (hx : opdOk x y = true) : RepV g (ev e y) (a.eval x) := by
  unfold opdOk at hx
  split at hx
  · simp only [beq_iff_eq] at hx; subst hx; exact cl_rep (h.rep _)
  · exact RepC.toV (constOk_rep hx)
  · simp only [beq_iff_eq] at hx; subst hx; exact RepC.toV (x := .fn _ [] []) ⟨[], [], rfl, .nil, .nil⟩
  · cases hx
theorem noOwn_ev {x : Operand} {y : Opd} (hx : opdOk x y = true) (e : Env) : noOwn (ev e y) := by
  cases y with
  | t n => exact noOwn_cl _
  | k c =>
    cases c with
    | own e sz rows =>
      exfalso
      cases x with
      | const v => simp only [opdOk] at hx; unfold constOk at hx; split at hx <;> first | (rename_i h; cases h; done) | cases hx
      | _ => simp [opdOk] at hx
    | _ => trivial

theorem opdsOk_cons {x : Operand} {xs : List Operand} {ys : List Opd} (h : opdsOk (x :: xs) ys = true) : ∃ y r, ys = y :: r ∧ opdOk x y = true ∧ opdsOk xs r = true := by
  cases ys with
  | nil => simp [opdsOk] at h
  | cons y r => simp only [opdsOk, Bool.and_eq_true] at h; exact ⟨y, r, rfl, h.1, h.2⟩

section
variable {P : Program} {fx : Fx} {g : Gh} {S : Nat → Option Nat} {s : St} {a : Act} {w : World}

/-- What a quiet operation must show. -/
def QOk (P : Program) (g : Gh) (a : Act) (w : World) (o : Oper) (v : V) : Prop :=
  ∃ u, (execOp a.eval o).run P w = .ok (.value u) w ∧ RepV g v u ∧ noOwn v

theorem RepV.int {g : Gh} {k : IntKind} {n : Int} {u : Value} (r : RepV g (.c (.d (.i k n))) u) : u = .int k n := by
  have r : RepD g.M (.i k n) u := r
  cases r; rfl
theorem RepV.bool {g : Gh} {x : Bool} {u : Value} (r : RepV g (.c (.d (.b x))) u) : u = .bool x := by
  have r : RepD g.M (.b x) u := r
  cases r; rfl
theorem RepV.str {g : Gh} {x : ByteArray} {u : Value} (r : RepV g (.c (.d (.s x))) u) : u = .string x := by
  have r : RepD g.M (.s x) u := r
  cases r; rfl

theorem run_binI {op : BinOp} {t : TypeId} {k k' : IntKind} {p q : Int} {r : D} (hr : binI op k k' p q = some r) (M : Mem) (w : World) :
    ∃ u, (binOp op t (.int k p) (.int k' q)).run P w = .ok u w ∧ RepD M r u := by
  cases op <;> simp only [binI] at hr <;> (try cases hr) <;>
    (repeat' (split at hr)) <;> (try (cases hr)) <;> (try subst_vars) <;>
    first
    | (rename_i h; refine ⟨_, ?_, .i _ _⟩; simp only [binOp, Op.shift]; rw [if_neg h]; rfl)
    | (rename_i h; refine ⟨_, ?_, .i _ _⟩; simp only [binOp, Op.intDiv, ne_eq, not_true, if_false]; rw [if_neg h]; rfl)
    | (refine ⟨_, ?_, .i _ _⟩; simp [binOp, Op.intArith, Op.intBits, Op.intCmp]; done)
    | (refine ⟨_, ?_, .b _⟩; simp [binOp, Op.intArith, Op.intBits, Op.intCmp]; done)

theorem q_bin (he : EInv g S s.env a w) {o : Oper} {op : BinOp} {t t' : TypeId} {x y : Operand} (ho : o.op = .binOp op t x y t') {x' y' : Opd} (hx : opdOk x x' = true) (hy : opdOk y y' = true)
    {k k' : IntKind} {p q : Int} (e1 : ev s.env x' = .c (.d (.i k p))) (e2 : ev s.env y' = .c (.d (.i k' q))) {r : D} (hr : binI op k k' p q = some r) : QOk P g a w o (.c (.d r)) := by
  have h1 := ev_rep he hx; rw [e1] at h1; have h1 := RepV.int h1
  have h2 := ev_rep he hy; rw [e2] at h2; have h2 := RepV.int h2
  unfold QOk execOp
  simp only [ho, h1, h2]
  have hg : ∀ (w : World), (eqGuard op t x y (.int k p) (.int k' q)).run P w = .ok () w := by
    intro w; unfold eqGuard; cases op <;> simp
  obtain ⟨u, hu, hru⟩ := run_binI (P := P) (t := t) hr g.M w
  simp only [Sem.run_bind, hg, Result.andThen_ok, hu, Sem.run_pure]
  exact ⟨u, rfl, hru, trivial⟩

theorem noOwn_clC (x : C) : noOwn (.c (clC x)) := by cases x <;> trivial
theorem noOwn_of {x : C} (h : noOwnC x) : noOwn (.c x) := by cases x <;> trivial

/-! ### Loads -/
theorem run_load_plain {t : TypeId} (ht : isPlainT P t = true) {ad : Addr} {u : Value} (hc : w.cell? ad = some u) : (Instr.loadAt t (.pointer (some ad))).run P w = .ok u w := by
  unfold isPlainT at ht
  cases hu : P.underlying t with
  | none => simp [hu] at ht
  | some d =>
    have hagg : (isAgg t).run P w = .ok false w := by
      unfold isAgg
      rw [Sem.run_bind, run_underlying hu w]
      simp only [hu] at ht
      cases d <;> simp_all
    simp [Instr.loadAt, Instr.sureAddr, loadVar, hagg, hc]
theorem run_load_row {t n : Nat} (ht : isRowT P t = true) (hs : sizeT P t n = true) {b o : Nat} {cs : List Value} (hc : w.rangeAt b o cs) (hl : cs.length = n) :
    (Instr.loadAt t (.pointer (some ⟨b, o, none⟩))).run P w = .ok (.agg cs.toArray) w := by
  unfold isRowT at ht
  unfold sizeT at hs
  cases hu : P.underlying t with
  | none => simp [hu] at ht
  | some d =>
    cases hi : P.info? t with
    | none => simp [hi] at hs
    | some i =>
      simp only [hi, Option.any_some, beq_iff_eq] at hs
      exact run_loadAt_mid w b o t cs d hc hu (by simpa [hu] using ht) (by simp [hi, hs, hl])

theorem loadC_rep (hh : HInv g s.H w) {id off b : Nat} (hb : g.β id = some b) {x : C} (hx : loadC s.H id off = some x) : ∃ u, w.cell? ⟨b, off, none⟩ = some u ∧ RepC g x u ∧ noOwn (.c x) := by
  unfold loadC at hx
  split at hx
  · rename_i bx hbx
    obtain ⟨arr, T, h1, h2, h3⟩ := hh.box id bx b hbx hb
    obtain ⟨c, hc, rfl⟩ := Option.map_eq_some_iff.1 hx
    obtain ⟨u, hu, hr, _⟩ := h3 off c hc
    exact ⟨u, by rw [cell_of_row w b off arr T (0, 0) h1]; exact hu, clC_rep hr, noOwn_clC c⟩
  · cases hx
theorem getElem?_take_drop {α : Type} (l : List α) (o n j : Nat) : ((l.drop o).take n)[j]? = if j < n then l[o + j]? else none := by
  rw [List.getElem?_take]; split <;> simp [List.getElem?_drop]
theorem loadA_rep (hh : HInv g s.H w) {id off n b : Nat} (hb : g.β id = some b) {xs : List C} (hx : loadA s.H id off n = some xs) :
    ∃ us : List Value, us.length = n ∧ w.rangeAt b off us ∧ All2 (RepN g) xs us := by
  unfold loadA at hx
  split at hx
  · rename_i bx hbx
    obtain ⟨arr, T, h1, h2, h3⟩ := hh.box id bx b hbx hb
    split at hx
    · rename_i hle
      cases hx
      refine ⟨((arr.toList.drop off).take n), ?_, ?_, ?_⟩
      · simp; omega
      · intro j v hv
        rw [getElem?_take_drop] at hv
        rw [cell_of_row w b (off + j) arr T (0, 0) h1]
        split at hv
        · simpa using hv
        · cases hv
      · refine All2.map_left clC (All2.of_get (by simp; omega) ?_)
        intro j c u hc hu
        rw [getElem?_take_drop] at hc hu
        split at hc
        · rename_i hj
          rw [if_pos hj] at hu
          obtain ⟨u', hu', hr, _⟩ := h3 _ c hc
          have : u' = u := by
            have e : arr.toList[off + j]? = arr[off + j]? := by simp
            rw [e, hu'] at hu; injection hu
          subst this
          exact clN_rep hr
        · cases hc
    · cases hx
  · cases hx

theorem RepV.ptr {id off : Nat} {u : Value} (r : RepV g (.c (.ptr id off)) u) : ∃ b, g.β id = some b ∧ u = .pointer (some ⟨b, off, none⟩) := r

theorem q_ld (h : SimG fx g S s a w) {o : Oper} {t : TypeId} {x : Operand} (ho : o.op = .load t x) {y : Opd} (hx : opdOk x y = true) (ht : isPlainT P t = true) {v : V}
    (hv : qv s.env s.H (.ld y) = some v) : QOk P g a w o v := by
  have h1 := ev_rep h.e hx
  unfold QOk execOp
  simp only [ho]
  simp only [qv] at hv
  split at hv
  · rename_i id off e
    rw [e] at h1
    obtain ⟨b, hb, eu⟩ := RepV.ptr h1
    split at hv
    · rename_i c hc
      cases hv
      obtain ⟨u, hu, hr, hn⟩ := loadC_rep h.h hb hc
      exact ⟨u, by simp only [eu, Sem.run_bind, run_load_plain ht hu, Result.andThen_ok, Sem.run_pure], RepC.toV hr, hn⟩
    · cases hv
  · rename_i row off e
    rw [e] at h1
    obtain ⟨b, o', f, eu, hf⟩ := h1
    split at hv
    · rename_i c hc
      cases hv
      obtain ⟨hm, hr⟩ := hf off c hc
      exact ⟨f off, by simp only [eu, Sem.run_bind, run_load_plain ht (h.h.mem _ _ _ hm), Result.andThen_ok, Sem.run_pure], hr, trivial⟩
    · cases hv
  · cases hv

theorem q_lda (h : SimG fx g S s a w) {o : Oper} {t n : Nat} {x : Operand} (ho : o.op = .load t x) {y : Opd} (hx : opdOk x y = true) (ht : isRowT P t = true) (hs : sizeT P t n = true) {v : V}
    (hv : qv s.env s.H (.lda n y) = some v) : QOk P g a w o v := by
  have h1 := ev_rep h.e hx
  unfold QOk execOp
  simp only [ho]
  simp only [qv] at hv
  split at hv
  · rename_i id off e
    rw [e] at h1
    obtain ⟨b, hb, eu⟩ := RepV.ptr h1
    split at hv
    · rename_i xs hc
      cases hv
      obtain ⟨us, hl, hr, ha⟩ := loadA_rep h.h hb hc
      exact ⟨.agg us.toArray, by simp only [eu, Sem.run_bind, run_load_row ht hs hr hl, Result.andThen_ok, Sem.run_pure], ⟨us, rfl, ha⟩, trivial⟩
    · cases hv
  · rename_i row off e
    rw [e] at h1
    obtain ⟨b, o', f, eu, hf⟩ := h1
    split at hv
    · rename_i hle
      cases hv
      have hr : w.rangeAt b (o' + off) ((List.range n).map fun j => f (off + j)) := by
        intro j u hu
        simp only [List.getElem?_map, Option.map_eq_some_iff] at hu
        obtain ⟨j', hj', rfl⟩ := hu
        have hj : j < n ∧ j' = j := by
          rw [List.getElem?_eq_some_iff] at hj'
          obtain ⟨h1, h2⟩ := hj'
          simp at h1 h2; exact ⟨h1, h2.symm⟩
        obtain ⟨hj, rfl⟩ := hj
        have hlt : off + j' < row.length := by omega
        have := (hf (off + j') _ (List.getElem?_eq_getElem hlt)).1
        have := h.h.mem _ _ _ this
        rwa [← Nat.add_assoc] at this
      refine ⟨.agg ((List.range n).map fun j => f (off + j)).toArray, by simp only [eu, Sem.run_bind, run_load_row ht hs hr (by simp), Result.andThen_ok, Sem.run_pure], ⟨_, rfl, ?_⟩, trivial⟩
      refine All2.map_left C.d (All2.of_get (by simp; omega) ?_)
      intro j d u hd hu
      rw [getElem?_take_drop] at hd
      split at hd
      · simp only [List.getElem?_map, Option.map_eq_some_iff] at hu
        obtain ⟨j', hj', rfl⟩ := hu
        have : j' = j := by
          rw [List.getElem?_eq_some_iff] at hj'
          obtain ⟨h1, h2⟩ := hj'
          simp at h1 h2; exact h2.symm
        subst this
        exact ⟨(hf _ d hd).2, trivial⟩
      · cases hd
    · cases hv
  · cases hv

/-! ### Reading an element's place -/
theorem flat_get {α : Type} {sz : Nat} : ∀ {rows : List (List α)} (hsz : ∀ r ∈ rows, r.length = sz) {j : Nat} {row : List α}, rows[j]? = some row → ∀ c x, row[c]? = some x → rows.flatten[j * sz + c]? = some x
  | [], _, j, row, h, _, _, _ => by simp at h
  | r :: rs, hsz, j, row, h, c, x, hx => by
    simp only [List.flatten_cons]
    have hr : r.length = sz := hsz r (by simp)
    cases j with
    | zero =>
      simp at h; subst h
      have hc : c < r.length := (List.getElem?_eq_some_iff.1 hx).1
      rw [List.getElem?_append_left (by omega)]; simpa using hx
    | succ j =>
      have := flat_get (rows := rs) (fun r hr => hsz r (by simp [hr])) (by simpa using h) c x hx
      rw [List.getElem?_append_right (by rw [hr, Nat.succ_mul]; omega)]
      rw [show (j + 1) * sz + c - r.length = j * sz + c by rw [hr, Nat.succ_mul]; omega]
      exact this
theorem RepD.elem {M : Mem} {sz : Nat} {rows : List (List D)} {v : Value} (r : RepD M (.l sz rows) v) {j : Nat} {row : List D} (hj : rows[j]? = some row) :
    ∃ b o cap, v = .slice (some ⟨b, o, none⟩) rows.length cap ∧ row.length = sz ∧ ∃ f : Nat → Value, ∀ k x, row[k]? = some x → M b (o + j * sz + k) = some (f k) ∧ RepD M x (f k) := by
  cases r with
  | l0 => simp at hj
  | l _ _ b o cap f hne hcap hsz hM hR =>
    refine ⟨b, o, cap, rfl, hsz _ (List.mem_of_getElem? hj), fun k => f (j * sz + k), fun k x hx => ?_⟩
    have := flat_get hsz hj k x hx
    exact ⟨by rw [Nat.add_assoc]; exact hM _ _ this, hR _ _ this⟩
theorem RepD.slice {M : Mem} {sz : Nat} {rows : List (List D)} {v : Value} (r : RepD M (.l sz rows) v) : ∃ ao cap, v = .slice ao rows.length cap ∧ rows.length ≤ cap := by
  cases r with
  | l0 => exact ⟨_, _, rfl, Nat.zero_le _⟩
  | l _ _ _ _ _ _ _ hcap => exact ⟨_, _, rfl, hcap⟩
theorem sizeT_run {t n : Nat} (h : sizeT P t n = true) (w : World) : (sizeOf t).run P w = .ok n w := by
  unfold sizeT at h
  cases hi : P.info? t with
  | none => simp [hi] at h
  | some i =>
    simp only [hi, Option.any_some, beq_iff_eq] at h
    simp [sizeOf, typeInfo, hi, h]

theorem q_ias (h : SimG fx g S s a w) {o : Oper} {t e sz : Nat} {x j : Operand} (ho : o.op = .indexAddr t x j) {x' j' : Opd} (hx : opdOk x x' = true) (hj : opdOk j j' = true)
    (ht : P.underlying t = some (.slice e)) (hs : sizeT P e sz = true) {v : V} (hv : qv s.env s.H (.ias sz x' j') = some v) : QOk P g a w o v := by
  have h1 := ev_rep h.e hx
  have h2 := ev_rep h.e hj
  unfold QOk execOp
  simp only [ho]
  simp only [qv] at hv
  split at hv
  · rename_i sz' rows k n e1 e2
    rw [e1] at h1; rw [e2] at h2
    have h2 := RepV.int h2
    have h1 : RepD g.M (.l sz' rows) (a.eval x) := h1
    split at hv
    · rename_i hsz; subst hsz
      split at hv
      · rename_i h0
        split at hv
        · rename_i row hrow
          cases hv
          obtain ⟨b, o', cap, eu, hl, f, hf⟩ := h1.elem hrow
          have hlt : n.toNat < rows.length := (List.getElem?_eq_some_iff.1 hrow).1
          have hn : n < (rows.length : Int) := by omega
          refine ⟨.pointer (some ⟨b, o' + n.toNat * sz', none⟩), ?_, ⟨b, o' + n.toNat * sz', f, rfl, hf⟩, trivial⟩
          simp [h2, eu, Instr.indexAt, asIntOf, run_underlying ht, sizeT_run hs, h0, hn, Addr.add_mid]
        · cases hv
      · cases hv
    · cases hv
  · rename_i id off len sz' k n e1 e2
    rw [e1] at h1; rw [e2] at h2
    have h2 := RepV.int h2
    obtain ⟨b, cap, hb, eu, _⟩ := h1
    split at hv
    · rename_i hsz; subst hsz
      split at hv
      · rename_i h0
        split at hv
        · rename_i hlt
          cases hv
          have hn : n < (len : Int) := by omega
          refine ⟨.pointer (some ⟨b, off + n.toNat * sz', none⟩), ?_, ⟨b, hb, rfl⟩, trivial⟩
          simp [h2, eu, Instr.indexAt, asIntOf, run_underlying ht, sizeT_run hs, h0, hn, Addr.add_mid]
        · cases hv
      · cases hv
    · cases hv
  · cases hv

theorem q_iaa (h : SimG fx g S s a w) {o : Oper} {t e n sz : Nat} {x j : Operand} (ho : o.op = .indexAddr t x j) {x' j' : Opd} (hx : opdOk x x' = true) (hj : opdOk j j' = true)
    (ht : P.underlying t = some (.array n e)) (hs : sizeT P e sz = true) {v : V} (hv : qv s.env s.H (.iaa n sz x' j') = some v) : QOk P g a w o v := by
  have h1 := ev_rep h.e hx
  have h2 := ev_rep h.e hj
  unfold QOk execOp
  simp only [ho]
  simp only [qv] at hv
  split at hv
  · rename_i id off k m e1 e2
    rw [e1] at h1; rw [e2] at h2
    have h2 := RepV.int h2
    obtain ⟨b, hb, eu⟩ := RepV.ptr h1
    split at hv
    · rename_i h0
      split at hv
      · rename_i hlt
        cases hv
        have hn : m < (n : Int) := by omega
        refine ⟨.pointer (some ⟨b, off + m.toNat * sz, none⟩), ?_, ⟨b, hb, rfl⟩, trivial⟩
        simp [h2, eu, Instr.indexAt, Instr.sureAddr, asIntOf, run_underlying ht, sizeT_run hs, h0, hn, Addr.add_mid]
      · cases hv
    · cases hv
  · rename_i row off k m e1 e2
    rw [e1] at h1; rw [e2] at h2
    have h2 := RepV.int h2
    obtain ⟨b, o', f, eu, hf⟩ := h1
    split at hv
    · rename_i h0
      split at hv
      · rename_i hlt
        cases hv
        have hn : m < (n : Int) := by omega
        refine ⟨.pointer (some ⟨b, o' + (off + m.toNat * sz), none⟩), ?_, ⟨b, o', f, rfl, hf⟩, trivial⟩
        simp [h2, eu, Instr.indexAt, Instr.sureAddr, asIntOf, run_underlying ht, sizeT_run hs, h0, hn, Addr.add_mid, Nat.add_assoc]
      · cases hv
    · cases hv
  · cases hv

theorem q_fad (h : SimG fx g S s a w) {o : Oper} {t j off : Nat} {x : Operand} (ho : o.op = .fieldAddr t x j) {y : Opd} (hx : opdOk x y = true) {fields : Array Field} (ht : P.underlying t = some (.struct fields))
    {fd : Field} (hf : fields[j]? = some fd) (hoff : fd.offset = off) {i : TypeInfo} (hi : P.info? fd.type = some i) (hi0 : i.size ≠ 0) {v : V} (hv : qv s.env s.H (.fad off y) = some v) : QOk P g a w o v := by
  have h1 := ev_rep h.e hx
  have hp : ∀ ad : Addr, (Instr.fieldAt t (.pointer (some ad)) j).run P w = .ok (.pointer (some (ad.add off))) w := by
    intro ad
    simp [Instr.fieldAt, run_underlying ht, hf, Instr.sureAddr, fieldPlace, sizeOf, typeInfo, hi, hi0, hoff]
  unfold QOk execOp
  simp only [ho]
  simp only [qv] at hv
  split at hv
  · rename_i id o' e
    cases hv
    rw [e] at h1
    obtain ⟨b, hb, eu⟩ := RepV.ptr h1
    exact ⟨.pointer (some ⟨b, o' + off, none⟩), by simp only [eu, Sem.run_bind, hp, Result.andThen_ok, Sem.run_pure, Addr.add_mid], ⟨b, hb, rfl⟩, trivial⟩
  · rename_i row o' e
    cases hv
    rw [e] at h1
    obtain ⟨b, o2, f, eu, hf'⟩ := h1
    exact ⟨.pointer (some ⟨b, o2 + (o' + off), none⟩), by simp only [eu, Sem.run_bind, hp, Result.andThen_ok, Sem.run_pure, Addr.add_mid, Nat.add_assoc], ⟨b, o2, f, rfl, hf'⟩, trivial⟩
  · cases hv

theorem q_mv (h : SimG fx g S s a w) {o : Oper} {x : Operand} (ho : o.op = .move x ∨ o.op = .assign x) {y : Opd} (hx : opdOk x y = true) : QOk P g a w o (ev s.env y) := by
  refine ⟨a.eval x, ?_, ev_rep h.e hx, noOwn_ev hx _⟩
  unfold execOp
  rcases ho with ho | ho <;> simp only [ho, Sem.run_pure]

theorem q_pick (h : SimG fx g S s a w) {o : Oper} {c x y : Operand} (ho : o.op = .pick c x y) {c' x' y' : Opd} (hc : opdOk c c' = true) (hx : opdOk x x' = true) (hy : opdOk y y' = true) {v : V}
    (hv : qv s.env s.H (.pick c' x' y') = some v) : QOk P g a w o v := by
  simp only [qv] at hv
  split at hv
  · rename_i t e
    have h1 := ev_rep h.e hc
    rw [e] at h1
    have h1 := RepV.bool h1
    cases hv
    unfold QOk execOp
    simp only [ho, h1, asBool, Sem.run_bind, Sem.run_pure, Result.andThen_ok]
    cases t
    · exact ⟨_, rfl, ev_rep h.e hy, noOwn_ev hy _⟩
    · exact ⟨_, rfl, ev_rep h.e hx, noOwn_ev hx _⟩
  · cases hv

theorem q_nck (h : SimG fx g S s a w) {o : Oper} {x : Operand} (ho : o.op = .nilCheck x) {x' : Opd} (hx : opdOk x x' = true) {v : V} (hv : qv s.env s.H (.nck x') = some v) : QOk P g a w o v := by
  have h1 := ev_rep h.e hx
  unfold QOk execOp
  simp only [ho]
  simp only [qv] at hv
  split at hv
  · rename_i id off e
    cases hv
    rw [e] at h1
    obtain ⟨b, hb, eu⟩ := RepV.ptr h1
    exact ⟨_, by simp only [eu, Sem.run_pure], ⟨b, hb, rfl⟩, trivial⟩
  · rename_i row off e
    cases hv
    rw [e] at h1
    obtain ⟨b, o', f, eu, hf⟩ := h1
    exact ⟨_, by simp only [eu, Sem.run_pure], ⟨b, o', f, rfl, hf⟩, trivial⟩
  · rename_i f fs cs e
    cases hv
    rw [e] at h1
    obtain ⟨vf, vc, eu, hf⟩ := h1
    exact ⟨_, by simp only [eu, Sem.run_pure], ⟨vf, vc, rfl, hf⟩, trivial⟩
  · cases hv

theorem q_eqb (h : SimG fx g S s a w) {o : Oper} {neg : Bool} {t t' : TypeId} {x y : Operand} (ho : o.op = .binOp (if neg then .neq else .eql) t x y t') (ht : P.underlying t = some .bool) {x' y' : Opd} (hx : opdOk x x' = true) (hy : opdOk y y' = true) {v : V}
    (hv : qv s.env s.H (.eqb neg x' y') = some v) : QOk P g a w o v := by
  have h1 := ev_rep h.e hx
  have h2 := ev_rep h.e hy
  unfold QOk execOp
  simp only [ho]
  simp only [qv] at hv
  split at hv
  · rename_i p q e1 e2
    cases hv
    rw [e1] at h1; rw [e2] at h2
    have h1 := RepV.bool h1
    have h2 := RepV.bool h2
    refine ⟨.bool (if neg then !(p == q) else p == q), ?_, .b _, trivial⟩
    have he : ∀ (p q : Bool) (w : World), (Op.equal t (.bool p) (.bool q)).run P w = .ok (p == q) w := fun p q w => run_equalIn_bool w 9999 t p q ht
    cases neg <;> simp only [h1, h2, eqGuard, binOp, he, if_true, if_false, Bool.false_eq_true, Sem.run_bind, Sem.run_pure, Result.andThen_ok, Bool.not_false, Bool.not_true] <;> simp
  · cases hv

theorem q_eqs (h : SimG fx g S s a w) {o : Oper} {neg : Bool} {t t' : TypeId} {x y : Operand} (ho : o.op = .binOp (if neg then .neq else .eql) t x y t') {x' y' : Opd} (hx : opdOk x x' = true) (hy : opdOk y y' = true) {v : V}
    (hv : qv s.env s.H (.eqs neg x' y') = some v) : QOk P g a w o v := by
  have h1 := ev_rep h.e hx
  have h2 := ev_rep h.e hy
  unfold QOk execOp
  simp only [ho]
  simp only [qv] at hv
  split at hv
  · rename_i p q e1 e2
    cases hv
    rw [e1] at h1; rw [e2] at h2
    have h1 := RepV.str h1
    have h2 := RepV.str h2
    refine ⟨.bool (if neg then !(p.toList == q.toList) else p.toList == q.toList), ?_, .b _, trivial⟩
    cases neg <;> simp [h1, h2, eqGuard, binOp, Op.stringOp]
  · cases hv

theorem run_eqFields : ∀ (fs : List Field) (j : Nat), eqFieldsOk P j fs = true → ∀ (xs ys : List C) (us vs : Array Value) (r : Bool), fs.length = xs.length →
    (∀ (k : Nat) x, xs[k]? = some x → ∃ u, us[j + k]? = some u ∧ RepC g x u) → (∀ (k : Nat) x, ys[k]? = some x → ∃ u, vs[j + k]? = some u ∧ RepC g x u) → eqCs xs ys = some r →
    ∀ d w, (Op.eqFields (d + 1) us vs fs).run P w = .ok r w
  | [], _, _, xs, ys, us, vs, r, hl, _, _, he, d, w => by
    have : xs = [] := List.eq_nil_of_length_eq_zero (by simpa using hl.symm)
    subst this
    cases ys with
    | nil => simp only [eqCs] at he; cases he; simp [Op.eqFields]
    | cons y ys => simp [eqCs] at he
  | f :: fs, j, hf, xs, ys, us, vs, r, hl, h1, h2, he, d, w => by
    cases xs with
    | nil => simp at hl
    | cons x xs =>
      cases ys with
      | nil => cases x <;> simp [eqCs] at he
      | cons y ys =>
        unfold eqCs at he
        split at he
        · rename_i hh; simp at hh
        · rename_i _ _ x' xs' y' ys' ex ey
          injection ex with ex1 ex2; injection ey with ey1 ey2
          subst ex1 ex2 ey1 ey2
          split at he
          · rename_i p q hp hq
            cases he
            simp only [eqFieldsOk, Bool.and_eq_true, beq_iff_eq, bne_iff_ne, ne_eq] at hf
            obtain ⟨⟨⟨hoff, hname⟩, hty⟩, hrest⟩ := hf
            obtain ⟨u, hu, ru⟩ := h1 0 _ rfl
            obtain ⟨v, hv, rv⟩ := h2 0 _ rfl
            simp only [Nat.add_zero] at hu hv
            have ih := run_eqFields fs (j + 1) hrest xs ys us vs q (by simpa using hl) (fun k x hx => by have := h1 (k + 1) x (by simpa using hx); rwa [show j + (k + 1) = j + 1 + k by omega] at this)
              (fun k x hx => by have := h2 (k + 1) x (by simpa using hx); rwa [show j + (k + 1) = j + 1 + k by omega] at this) hq d w
            have hcmp : ∃ dd, P.underlying f.type = some dd ∧ dd.isRow = false ∧ (Op.equalIn (d + 1) f.type u v).run P w = .ok p w := by
              simp only [RepC] at ru rv
              cases hud : P.underlying f.type with
              | none => simp [hud] at hty
              | some dd =>
                simp only [hud] at hty
                cases dd <;> first | (cases hty; done) | skip
                refine ⟨_, rfl, rfl, ?_⟩
                cases ru <;> cases rv <;> simp only [eqD] at hp <;> first | (cases hp; done) | skip
                split at hp
                · rename_i hk; subst hk
                  cases hp
                  exact run_equalIn_int w d f.type _ _ _ _ hud
                · cases hp
            obtain ⟨dd, hdd, hrow, hcmp⟩ := hcmp
            have hagg : ∀ w, (isAgg f.type).run P w = .ok false w := by
              intro w
              unfold isAgg
              rw [Sem.run_bind, run_underlying hdd w]
              cases dd <;> simp_all
            have hpart : ∀ (z : Array Value) (c : Value), z[j]? = some c → (part f.type z f.offset).run P w = .ok c w := by
              intro z c hz
              simp [part, hagg, hoff, hz]
            simp only [Op.eqFields, ne_eq, hname, not_false_eq_true, if_true, Sem.run_bind, hpart us u hu, hpart vs v hv, Result.andThen_ok, hcmp]
            cases p
            · simp
            · simpa using ih
          · cases he
        · cases he

theorem All2.getA {g : Gh} {xs : List C} {vs : List Value} (h : All2 (RepN g) xs vs) : ∀ (k : Nat) x, xs[k]? = some x → ∃ u, vs.toArray[k]? = some u ∧ RepC g x u := by
  intro k x hx
  obtain ⟨u, hu, hr⟩ := h.get k x hx
  exact ⟨u, by simpa using hu, hr.1⟩
theorem All2.own {g : Gh} {xs : List C} {vs : List Value} (h : All2 (RepN g) xs vs) {k : Nat} {x} (hx : xs[k]? = some x) : noOwn (.c x) := by
  obtain ⟨u, hu, hr⟩ := h.get k x hx
  exact noOwn_of hr.2

theorem q_eqa (h : SimG fx g S s a w) {o : Oper} {neg : Bool} {t t' : TypeId} {x y : Operand} (ho : o.op = .binOp (if neg then .neq else .eql) t x y t') {fs : Array Field} (ht : P.underlying t = some (.struct fs))
    (hs : P.stoodInHeld t = false) (hg : P.eqGuardType P.depth t = false) (hf : eqFieldsOk P 0 fs.toList = true) {x' y' : Opd} (hx : opdOk x x' = true) (hy : opdOk y y' = true) {v : V}
    {n : Nat} (hn : fs.size = n) (hv : qv s.env s.H (.eqa neg n x' y') = some v) : QOk P g a w o v := by
  have h1 := ev_rep h.e hx
  have h2 := ev_rep h.e hy
  unfold QOk execOp
  simp only [ho]
  simp only [qv] at hv
  split at hv
  · rename_i p q e1 e2
    rw [e1] at h1; rw [e2] at h2
    obtain ⟨us, eu, ru⟩ := h1
    obtain ⟨vs, ev', rv⟩ := h2
    split at hv
    · rename_i hpl
      split at hv
      case h_2 => cases hv
      rename_i r hr
      cases hv
      have hfl : P.fieldsOf t = fs := by simp [Program.fieldsOf, ht]
      have he : ∀ w : World, (Op.equal t (.agg us.toArray) (.agg vs.toArray)).run P w = .ok r w := by
        intro w
        show (Op.equalIn (9999 + 1) t (.agg us.toArray) (.agg vs.toArray)).run P w = .ok r w
        rw [run_equalIn_struct w 9999 t us.toArray vs.toArray (by rw [hfl]; exact ht) hs, hfl]
        exact run_eqFields fs.toList 0 hf p q us.toArray vs.toArray r (by rw [hpl, ← hn]; simp) (fun k x hx => by rw [Nat.zero_add]; exact ru.getA k x hx) (fun k x hx => by rw [Nat.zero_add]; exact rv.getA k x hx) hr 9998 w
      have hgd : ∀ (op : BinOp) (w : World), (eqGuard op t x y (.agg us.toArray) (.agg vs.toArray)).run P w = .ok () w := by
        intro op w
        unfold eqGuard
        cases op <;> simp [hg]
      refine ⟨.bool (if neg then !r else r), ?_, .b _, trivial⟩
      cases neg <;> simp only [eu, ev', hgd, binOp, he, if_true, if_false, Bool.false_eq_true, Sem.run_bind, Sem.run_pure, Result.andThen_ok]
    · cases hv
  · cases hv

theorem equalIn_nilSlice (d : Nat) {t e : TypeId} (ht : P.underlying t = some (.slice e)) (b : Option Addr) (n c : Nat) (w : World) : (Op.equalIn (d + 1) t (.slice b n c) (.slice none 0 0)).run P w = .ok b.isNone w := by
  cases b <;> simp [Op.equalIn, run_underlying ht]
theorem equalIn_nilPtr (d : Nat) {t e : TypeId} (ht : P.underlying t = some (.pointer e)) (b : Option Addr) (w : World) : (Op.equalIn (d + 1) t (.pointer b) (.pointer none)).run P w = .ok b.isNone w := by
  cases b <;> simp [Op.equalIn, run_underlying ht]
theorem run_equal_nilSlice {t e : TypeId} (ht : P.underlying t = some (.slice e)) (b : Option Addr) (n c : Nat) (w : World) : (Op.equal t (.slice b n c) (.slice none 0 0)).run P w = .ok b.isNone w := equalIn_nilSlice 9999 ht b n c w
theorem run_equal_nilPtr {t e : TypeId} (ht : P.underlying t = some (.pointer e)) (b : Option Addr) (w : World) : (Op.equal t (.pointer b) (.pointer none)).run P w = .ok b.isNone w := equalIn_nilPtr 9999 ht b w

theorem q_eqnS (h : SimG fx g S s a w) {o : Oper} {t t' e : TypeId} {x : Operand} (ho : o.op = .binOp .eql t x (.const (.slice none 0 0)) t') (ht : P.underlying t = some (.slice e)) {x' : Opd} (hx : opdOk x x' = true) {v : V}
    (hv : qv s.env s.H (.eqn x') = some v) : QOk P g a w o v := by
  have h1 := ev_rep h.e hx
  have hb : ∃ (b : Option Addr) (n c : Nat), a.eval x = .slice b n c ∧ v = .B b.isNone := by
    simp only [qv] at hv
    split at hv
    · rename_i id off len sz e; rw [e] at h1; obtain ⟨b, cap, _, eu, _⟩ := h1; cases hv; exact ⟨_, _, _, eu, rfl⟩
    · rename_i sz e; rw [e] at h1; cases hv; exact ⟨none, 0, 0, h1, rfl⟩
    · rename_i sz r rs e; rw [e] at h1; cases hv
      have h1 : RepD g.M (.l sz (r :: rs)) (a.eval x) := h1
      obtain ⟨b, o', cap, eu, _⟩ := h1.elem (j := 0) (row := r) rfl
      exact ⟨_, _, _, eu, rfl⟩
    · cases hv
  obtain ⟨b, n, c, eu, rfl⟩ := hb
  unfold QOk execOp
  refine ⟨.bool b.isNone, ?_, .b _, trivial⟩
  have hc : a.eval (.const (.slice none 0 0)) = .slice none 0 0 := rfl
  have hgd : (eqGuard .eql t x (.const (.slice none 0 0)) (.slice b n c) (.slice none 0 0)).run P w = .ok () w := by simp [eqGuard]
  simp only [ho, eu, hc, Sem.run_bind, hgd, binOp, run_equal_nilSlice ht, Result.andThen_ok, Sem.run_pure]

theorem q_eqnP (h : SimG fx g S s a w) {o : Oper} {t t' e : TypeId} {x : Operand} (ho : o.op = .binOp .eql t x (.const (.pointer none)) t') (ht : P.underlying t = some (.pointer e)) {x' : Opd} (hx : opdOk x x' = true) {v : V}
    (hv : qv s.env s.H (.eqp x') = some v) : QOk P g a w o v := by
  have h1 := ev_rep h.e hx
  have hb : ∃ b : Option Addr, a.eval x = .pointer b ∧ v = .B b.isNone := by
    simp only [qv] at hv
    split at hv
    · rename_i id off e; rw [e] at h1; obtain ⟨b, _, eu⟩ := RepV.ptr h1; cases hv; exact ⟨_, eu, rfl⟩
    · rename_i e; rw [e] at h1; cases hv; exact ⟨none, h1, rfl⟩
    · cases hv
  obtain ⟨b, eu, rfl⟩ := hb
  unfold QOk execOp
  refine ⟨.bool b.isNone, ?_, .b _, trivial⟩
  have hc : a.eval (.const (.pointer none)) = .pointer none := rfl
  have hgd : (eqGuard .eql t x (.const (.pointer none)) (.pointer b) (.pointer none)).run P w = .ok () w := by simp [eqGuard]
  simp only [ho, eu, hc, Sem.run_bind, hgd, binOp, run_equal_nilPtr ht, Result.andThen_ok, Sem.run_pure]

theorem q_neg (h : SimG fx g S s a w) {o : Oper} {t : TypeId} {x : Operand} (ho : o.op = .unOp .neg t x) {x' : Opd} (hx : opdOk x x' = true) {v : V} (hv : qv s.env s.H (.neg x') = some v) : QOk P g a w o v := by
  have h1 := ev_rep h.e hx
  unfold QOk execOp
  simp only [ho]
  simp only [qv] at hv
  split at hv
  · rename_i k p e
    cases hv
    rw [e] at h1
    have h1 := RepV.int h1
    exact ⟨_, by simp only [h1, Op.unary, Op.intArith, Sem.run_bind, Sem.run_pure, Result.andThen_ok], .i _ _, trivial⟩
  · cases hv
theorem q_not (h : SimG fx g S s a w) {o : Oper} {t : TypeId} {x : Operand} (ho : o.op = .unOp .not t x) {x' : Opd} (hx : opdOk x x' = true) {v : V} (hv : qv s.env s.H (.not x') = some v) : QOk P g a w o v := by
  have h1 := ev_rep h.e hx
  unfold QOk execOp
  simp only [ho]
  simp only [qv] at hv
  split at hv
  · rename_i p e
    cases hv
    rw [e] at h1
    have h1 := RepV.bool h1
    exact ⟨_, by simp only [h1, Op.unary, Sem.run_bind, Sem.run_pure, Result.andThen_ok], .b _, trivial⟩
  · cases hv
theorem q_cvi (h : SimG fx g S s a w) {o : Oper} {k : IntKind} {src dst : TypeId} {x : Operand} (ho : o.op = .convert src dst x) (hsrc : (P.underlying src).isSome = true) (hdst : P.underlying dst = some (.int k)) {x' : Opd} (hx : opdOk x x' = true) {v : V}
    (hv : qv s.env s.H (.cvi k x') = some v) : QOk P g a w o v := by
  have h1 := ev_rep h.e hx
  obtain ⟨d, hd⟩ := Option.isSome_iff_exists.1 hsrc
  unfold QOk execOp
  simp only [ho]
  simp only [qv] at hv
  split at hv
  · rename_i k' p e
    cases hv
    rw [e] at h1
    have h1 := RepV.int h1
    refine ⟨.int k (k.wrap p), ?_, .i _ _, trivial⟩
    simp only [h1, convert, Sem.run_bind, run_underlying hd, run_underlying hdst, Result.andThen_ok, Conv.intToInt, Sem.run_pure]
  · cases hv

theorem ptrs_rep (he : EInv g S s.env a w) : ∀ {xs : List Operand} {ys : List Opd} {ps : List (Nat × Nat)}, opdsOk xs ys = true → ptrs s.env ys = some ps → All2 (PtrRep g) ps (xs.map a.eval)
  | [], [], ps, _, h => by simp only [ptrs] at h; cases h; exact .nil
  | x :: xs, [], _, h, _ => by simp [opdsOk] at h
  | [], y :: ys, _, h, _ => by simp [opdsOk] at h
  | x :: xs, y :: ys, ps, h, hp => by
    simp only [opdsOk, Bool.and_eq_true] at h
    simp only [ptrs] at hp
    split at hp
    · rename_i id off r e hr
      cases hp
      have h1 := ev_rep he h.1
      rw [e] at h1
      exact .cons h1 (ptrs_rep he h.2 hr)
    · cases hp
theorem q_mkf (h : SimG fx g S s a w) {o : Oper} {f : Nat} {fs cs : Array Operand} (ho : o.op = .makeFunc (.func f) fs cs) {fs' cs' : List Opd} (hf : opdsOk fs.toList fs' = true) (hc : opdsOk cs.toList cs' = true) {v : V}
    (hv : qv s.env s.H (.mkf f fs' cs') = some v) : QOk P g a w o v := by
  unfold QOk execOp
  simp only [ho]
  simp only [qv] at hv
  split at hv
  · rename_i p q hp hq
    cases hv
    refine ⟨.func (.func f) (fs.map a.eval) (cs.map a.eval), by simp only [Instr.makeFunc, Sem.run_bind, Sem.run_pure, Result.andThen_ok], ⟨fs.toList.map a.eval, cs.toList.map a.eval, ?_, ptrs_rep h.e hf hp, ptrs_rep h.e hc hq⟩, trivial⟩
    congr 1 <;> (apply Array.ext'; simp)
  · cases hv

theorem isPlainT_run {t : TypeId} (ht : isPlainT P t = true) (w : World) : (isAgg t).run P w = .ok false w := by
  unfold isPlainT at ht
  cases hu : P.underlying t with
  | none => simp [hu] at ht
  | some d =>
    unfold isAgg
    rw [Sem.run_bind, run_underlying hu w]
    simp only [hu] at ht
    cases d <;> simp_all
theorem isRowT_run {t : TypeId} (ht : isRowT P t = true) (w : World) : (isAgg t).run P w = .ok true w := by
  unfold isRowT at ht
  cases hu : P.underlying t with
  | none => simp [hu] at ht
  | some d =>
    unfold isAgg
    rw [Sem.run_bind, run_underlying hu w]
    simp only [hu] at ht
    cases d <;> simp_all

theorem q_ix (h : SimG fx g S s a w) {o : Oper} {t e n : Nat} {x j : Operand} (ho : o.op = .index t x j) {x' j' : Opd} (hx : opdOk x x' = true) (hj : opdOk j j' = true)
    (ht : P.underlying t = some (.array n e)) (hs : sizeT P e 1 = true) (hp : isPlainT P e = true) {v : V} (hv : qv s.env s.H (.ix n x' j') = some v) : QOk P g a w o v := by
  have h1 := ev_rep h.e hx
  have h2 := ev_rep h.e hj
  unfold QOk execOp
  simp only [ho]
  simp only [qv] at hv
  split at hv
  · rename_i xs k m e1 e2
    rw [e1] at h1; rw [e2] at h2
    have h2 := RepV.int h2
    obtain ⟨us, eu, ru⟩ := h1
    split at hv
    · rename_i h0
      split at hv
      · rename_i hlt
        split at hv
        · rename_i y hy
          cases hv
          obtain ⟨u, hu, hr⟩ := ru.getA _ _ hy
          have hn : m < (n : Int) := by omega
          refine ⟨u, ?_, RepC.toV hr, ru.own hy⟩
          have hu' : us[m.toNat]? = some u := by simpa using hu
          simp [h2, eu, Instr.index, asIntOf, run_underlying ht, sizeT_run hs, h0, hn, part, isPlainT_run hp, hu']
        · cases hv
      · cases hv
    · cases hv
  · cases hv
theorem q_ixa (h : SimG fx g S s a w) {o : Oper} {t e n sz : Nat} {x j : Operand} (ho : o.op = .index t x j) {x' j' : Opd} (hx : opdOk x x' = true) (hj : opdOk j j' = true)
    (ht : P.underlying t = some (.array n e)) (hs : sizeT P e sz = true) (hp : isRowT P e = true) {v : V} (hv : qv s.env s.H (.ixa n sz x' j') = some v) : QOk P g a w o v := by
  have h1 := ev_rep h.e hx
  have h2 := ev_rep h.e hj
  unfold QOk execOp
  simp only [ho]
  simp only [qv] at hv
  split at hv
  · rename_i xs k m e1 e2
    rw [e1] at h1; rw [e2] at h2
    have h2 := RepV.int h2
    obtain ⟨us, eu, ru⟩ := h1
    split at hv
    · rename_i h0
      split at hv
      · rename_i hlt
        split at hv
        · rename_i hle
          cases hv
          have hn : m < (n : Int) := by omega
          refine ⟨.agg ((us.drop (m.toNat * sz)).take sz).toArray, ?_, ⟨_, rfl, (ru.drop _).take _⟩, trivial⟩
          simp [h2, eu, Instr.index, asIntOf, run_underlying ht, sizeT_run hs, h0, hn, part, isRowT_run hp]
        · cases hv
      · cases hv
    · cases hv
  · cases hv
theorem q_fld (h : SimG fx g S s a w) {o : Oper} {t j off : Nat} {x : Operand} (ho : o.op = .field t x j) {y : Opd} (hx : opdOk x y = true) {fields : Array Field} (ht : P.underlying t = some (.struct fields))
    {fd : Field} (hf : fields[j]? = some fd) (hoff : fd.offset = off) (hp : isPlainT P fd.type = true) {v : V} (hv : qv s.env s.H (.fld off y) = some v) : QOk P g a w o v := by
  have h1 := ev_rep h.e hx
  unfold QOk execOp
  simp only [ho]
  simp only [qv] at hv
  split at hv
  · rename_i xs e1
    rw [e1] at h1
    obtain ⟨us, eu, ru⟩ := h1
    split at hv
    · rename_i c hy
      cases hv
      obtain ⟨u, hu, hr⟩ := ru.getA _ _ hy
      have hu' : us[off]? = some u := by simpa using hu
      exact ⟨u, by simp [eu, Instr.field, run_underlying ht, hf, asAgg, hoff, part, isPlainT_run hp, hu'], RepC.toV hr, ru.own hy⟩
    · cases hv
  · cases hv
theorem Rep1.noOwn {x : V} {v : Value} (r : Rep1 g x v) : noOwn x := by
  cases x with
  | c x => exact noOwn_of r.2
  | agg => trivial
  | tup => trivial
theorem q_ext (h : SimG fx g S s a w) {o : Oper} {j : Nat} {x : Operand} (ho : o.op = .extract x j) {y : Opd} (hx : opdOk x y = true) {v : V} (hv : qv s.env s.H (.ext y j) = some v) : QOk P g a w o v := by
  have h1 := ev_rep h.e hx
  unfold QOk execOp
  simp only [ho]
  simp only [qv] at hv
  split at hv
  · rename_i xs e1
    rw [e1] at h1
    obtain ⟨us, eu, ru⟩ := h1
    obtain ⟨u, hu, hr⟩ := ru.get j v hv
    exact ⟨u, by simp [eu, Instr.extract, hu], hr.toV, hr.noOwn⟩
  · cases hv
theorem q_len (h : SimG fx g S s a w) {o : Oper} {x : Operand} {t e : TypeId} {args : Array Operand} {ats : Array TypeId} (ho : o.op = .call { callee := .builtin .len, args := args, argTypes := ats }) (ha : args = #[x]) (hat : ats = #[t])
    (ht : P.underlying t = some (.slice e)) {y : Opd} (hx : opdOk x y = true) {v : V} (hv : qv s.env s.H (.len y) = some v) : QOk P g a w o v := by
  have h1 := ev_rep h.e hx
  subst ha hat
  have hb : ∃ (b : Option Addr) (n c : Nat), a.eval x = .slice b n c ∧ v = .I n := by
    simp only [qv] at hv
    split at hv
    · rename_i sz rows e; rw [e] at h1; cases hv
      obtain ⟨ao, cap, eu, _⟩ := RepD.slice (M := g.M) h1
      exact ⟨_, _, _, eu, rfl⟩
    · rename_i sz e; rw [e] at h1; cases hv; exact ⟨none, 0, 0, h1, rfl⟩
    · rename_i id off len sz e; rw [e] at h1; obtain ⟨b, cap, _, eu, _⟩ := h1; cases hv; exact ⟨_, _, _, eu, rfl⟩
    · cases hv
  obtain ⟨b, n, c, eu, rfl⟩ := hb
  unfold QOk execOp
  exact ⟨.int .i64 n, by simp [ho, resolve, invoke, builtin, Builtin.len_, eu, run_underlying ht, goInt], .i _ _, trivial⟩
theorem q_mm (h : SimG fx g S s a w) {o : Oper} {mx : Bool} {x z : Operand} {args : Array Operand} {ats : Array TypeId} (ho : o.op = .call { callee := .builtin (if mx then .max else .min), args := args, argTypes := ats }) (ha : args = #[x, z]) {x' z' : Opd}
    (hx : opdOk x x' = true) (hz : opdOk z z' = true) {v : V} (hv : qv s.env s.H (.mm mx x' z') = some v) : QOk P g a w o v := by
  have h1 := ev_rep h.e hx
  have h2 := ev_rep h.e hz
  subst ha
  unfold QOk execOp
  simp only [qv] at hv
  split at hv
  · rename_i k p k' q e1 e2
    rw [e1] at h1; rw [e2] at h2
    have h1 := RepV.int h1
    have h2 := RepV.int h2
    cases hv
    cases mx
    · exact ⟨.int k (if q < p then q else p), by simp [ho, resolve, invoke, builtin, Builtin.min_, Builtin.min2, h1, h2], .i _ _, trivial⟩
    · exact ⟨.int k (if q > p then q else p), by simp [ho, resolve, invoke, builtin, Builtin.max_, Builtin.max2, h1, h2], .i _ _, trivial⟩
  · cases hv

/-! ### Slicing -/
theorem run_bounds (he : EInv g S s.env a w) {lo hi : Option Operand} {lo' hi' : Option Opd} (h1 : optOk lo lo' = true) (h2 : optOk hi hi' = true) {l h len cap : Nat} (isS : Bool) (e1 : natOf s.env lo' 0 = some l) (e2 : natOf s.env hi' len = some h)
    (hlh : l ≤ h) (hc : h ≤ cap) : (Instr.sliceBounds isS len cap (lo.map a.eval) (hi.map a.eval) none).run P w = .ok (l, h, cap) w := by
  have hb : ∀ (x : Operand) (x' : Opd) (n y : Nat) (code : BoundsCode), opdOk x x' = true → natOf s.env (some x') y = some n → ∀ m, n ≤ m → ∀ c, (Instr.sliceBound (a.eval x) m c).run P w = .ok n w := by
    intro x x' n y code hx hn m hm c
    have r := ev_rep he hx
    simp only [natOf] at hn
    split at hn
    · rename_i k z e
      rw [e] at r
      have r := RepV.int r
      split at hn
      · rename_i h0
        cases hn
        have : z ≤ (m : Int) := by omega
        simp [Instr.sliceBound, r, asIntOf, h0, this]
      · cases hn
    · cases hn
  cases hi with
  | none =>
    cases hi' with
    | some y => simp [optOk] at h2
    | none =>
      simp only [natOf] at e2
      cases e2
      cases lo with
      | none =>
        cases lo' with
        | some y => simp [optOk] at h1
        | none => simp only [natOf] at e1; cases e1; simp [Instr.sliceBounds]
      | some x =>
        cases lo' with
        | none => simp [optOk] at h1
        | some x' => simp [Instr.sliceBounds, hb x x' l 0 .index (by simpa [optOk] using h1) e1 _ hlh]
  | some y =>
    cases hi' with
    | none => simp [optOk] at h2
    | some y' =>
      have hy := hb y y' h len .index (by simpa [optOk] using h2) e2 _ hc
      cases lo with
      | none =>
        cases lo' with
        | some y => simp [optOk] at h1
        | none => simp only [natOf] at e1; cases e1; simp [Instr.sliceBounds, hy]
      | some x =>
        cases lo' with
        | none => simp [optOk] at h1
        | some x' => simp [Instr.sliceBounds, hy, hb x x' l 0 .index (by simpa [optOk] using h1) e1 _ hlh]

theorem flat_len {α : Type} {sz : Nat} : ∀ {rows : List (List α)}, (∀ r ∈ rows, r.length = sz) → rows.flatten.length = rows.length * sz
  | [], _ => by simp
  | r :: rs, h => by
    simp only [List.flatten_cons, List.length_append, List.length_cons, flat_len (rows := rs) fun r hr => h r (by simp [hr]), h r (by simp), Nat.succ_mul]
    omega
theorem flat_cut {α : Type} {sz : Nat} {rows : List (List α)} (hsz : ∀ r ∈ rows, r.length = sz) {l n k : Nat} (hl : l ≤ rows.length) {x : α} (h : ((rows.drop l).take n).flatten[k]? = some x) : rows.flatten[l * sz + k]? = some x := by
  have e : rows = rows.take l ++ ((rows.drop l).take n ++ (rows.drop l).drop n) := by rw [List.take_append_drop, List.take_append_drop]
  have hl' : (rows.take l).flatten.length = l * sz := by
    rw [flat_len (sz := sz) fun r hr => hsz r (List.mem_of_mem_take hr), List.length_take, Nat.min_eq_left hl]
  have : rows.flatten = (rows.take l).flatten ++ (((rows.drop l).take n).flatten ++ ((rows.drop l).drop n).flatten) := by
    conv => lhs; rw [e]
    simp only [List.flatten_append]
  rw [this, List.getElem?_append_right (by omega), hl', show l * sz + k - l * sz = k by omega, List.getElem?_append_left (List.getElem?_eq_some_iff.1 h).1]
  exact h

theorem q_sls (h : SimG fx g S s a w) {o : Oper} {t e sz : Nat} {x : Operand} {lo hi : Option Operand} (ho : o.op = .slice t x lo hi none) {x' : Opd} {lo' hi' : Option Opd} (hx : opdOk x x' = true) (h1 : optOk lo lo' = true) (h2 : optOk hi hi' = true)
    (ht : P.underlying t = some (.slice e)) (hs : sizeT P e sz = true) {v : V} (hv : qv s.env s.H (.sls sz x' lo' hi') = some v) : QOk P g a w o v := by
  have r := ev_rep h.e hx
  unfold QOk execOp
  simp only [ho]
  simp only [qv] at hv
  have run : ∀ (ao : Option Addr) (len cap l hh : Nat), natOf s.env lo' 0 = some l → natOf s.env hi' len = some hh → l ≤ hh → hh ≤ cap → a.eval x = .slice ao len cap →
      (Instr.sliceAt t (a.eval x) (lo.map a.eval) (hi.map a.eval) (Option.map a.eval none)).run P w = .ok (.slice (if cap = l then ao else ao.map (·.add (l * sz))) (hh - l) (cap - l)) w := by
    intro ao len cap l hh e1 e2 hlh hc eu
    simp [Instr.sliceAt, run_underlying ht, Instr.slice, eu, run_bounds (P := P) h.e h1 h2 true e1 e2 hlh hc, sizeT_run hs]
  split at hv
  · rename_i sz' rows e1
    rw [e1] at r
    have r : RepD g.M (.l sz' rows) (a.eval x) := r
    split at hv
    · rename_i hsz; subst hsz
      split at hv
      · rename_i l hh e2 e3
        split at hv
        · rename_i hlh
          split at hv
          · rename_i hle
            cases hv
            cases hr : a.eval x with
            | slice ao len cap =>
              obtain ⟨ao', cap', eq, hcap⟩ := r.slice
              rw [hr] at eq
              injection eq with eq1 eq2 eq3
              subst eq1 eq2 eq3
              refine ⟨.slice (if cap = l then ao else ao.map (·.add (l * sz'))) (hh - l) (cap - l), by rw [← hr]; simp only [Sem.run_bind, run ao rows.length cap l hh e2 e3 hlh (by omega) hr, Result.andThen_ok, Sem.run_pure], ?_, trivial⟩
              by_cases h0 : l = hh
              · subst h0
                simp only [Nat.sub_self, List.take_zero]
                exact .l0 _ _ _
              · rw [hr] at r
                cases r with
                | l0 => simp at hle; omega
                | l _ _ b o' _ f hne hcap hsz hM hR =>
                  rw [if_neg (by omega)]
                  simp only [Option.map_some, Addr.add_mid]
                  have hlen : ((rows.drop l).take (hh - l)).length = hh - l := by simp; omega
                  have := RepD.l (M := g.M) sz' ((rows.drop l).take (hh - l)) b (o' + l * sz') (cap - l) (fun k => f (l * sz' + k)) (by intro e; rw [e] at hlen; simp at hlen; omega) (by omega)
                    (fun r hr => hsz r (List.mem_of_mem_drop (List.mem_of_mem_take hr)))
                    (fun k y hk => by have := hM _ y (flat_cut hsz (by omega) hk); rwa [← Nat.add_assoc] at this) (fun k y hk => hR _ y (flat_cut hsz (by omega) hk))
                  rw [hlen] at this
                  exact this
            | _ => obtain ⟨ao', cap', eq, hcap⟩ := r.slice; rw [hr] at eq; cases eq
          · cases hv
        · cases hv
      · cases hv
    · cases hv
  · rename_i sz' e1
    rw [e1] at r
    have r : a.eval x = .slice none 0 0 := r
    split at hv
    · rename_i hsz; subst hsz
      split at hv
      · rename_i l hh e2 e3
        split at hv
        · rename_i hlh
          split at hv
          · rename_i h0
            subst h0
            cases hv
            have : l = 0 := by omega
            subst this
            exact ⟨_, by simp only [Sem.run_bind, run none 0 0 0 0 e2 e3 (by omega) (by omega) r, Result.andThen_ok, Sem.run_pure]; rfl, rfl, trivial⟩
          · cases hv
        · cases hv
      · cases hv
    · cases hv
  · rename_i id off len sz' e1
    rw [e1] at r
    obtain ⟨b, cap, hb, eu, hcap⟩ := r
    split at hv
    · rename_i hsz; subst hsz
      split at hv
      · rename_i l hh e2 e3
        split at hv
        · rename_i hlh
          split at hv
          · rename_i hle
            cases hv
            refine ⟨_, by simp only [Sem.run_bind, run _ len cap l hh e2 e3 (by omega) (by omega) eu, Result.andThen_ok, Sem.run_pure]; rfl, ⟨b, cap - l, hb, ?_, by omega⟩, trivial⟩
            rw [if_neg (by omega)]
            simp [Addr.add_mid]
          · cases hv
        · cases hv
      · cases hv
    · cases hv
  · cases hv

theorem q_sla (h : SimG fx g S s a w) {o : Oper} {t e n sz : Nat} {x : Operand} {lo hi : Option Operand} (ho : o.op = .slice t x lo hi none) {x' : Opd} {lo' hi' : Option Opd} (hx : opdOk x x' = true) (h1 : optOk lo lo' = true) (h2 : optOk hi hi' = true)
    (ht : P.underlying t = some (.array n e)) (hs : sizeT P e sz = true) {v : V} (hv : qv s.env s.H (.sla n sz x' lo' hi') = some v) : QOk P g a w o v := by
  have r := ev_rep h.e hx
  unfold QOk execOp
  simp only [ho]
  simp only [qv] at hv
  split at hv
  · rename_i id off e1
    rw [e1] at r
    obtain ⟨b, hb, eu⟩ := RepV.ptr r
    split at hv
    · rename_i l hh e2 e3
      split at hv
      · rename_i hlh
        split at hv
        · rename_i hln
          split at hv
          · rename_i hle
            cases hv
            refine ⟨.slice (some ⟨b, off + l * sz, none⟩) (hh - l) (n - l), ?_, ⟨b, n - l, hb, rfl, by omega⟩, trivial⟩
            simp [Instr.sliceAt, run_underlying ht, Instr.sureAddr, eu, run_bounds (P := P) h.e h1 h2 false e2 e3 hlh hle, sizeT_run hs, Addr.add_mid, show ¬ n = l by omega]
          · cases hv
        · cases hv
      · cases hv
    · cases hv
  · cases hv

end
end Go.Ab
