/-
  One operation of the code: what the abstract machine makes of it is what the model makes of it.
  Conditions: the callees' contracts.
-/
import Derived.Test.YtnnjmbblpmghfaaGreatF
import Derived.Laws.OwnMore
set_option linter.unusedSimpArgs false
set_option linter.unusedVariables false
namespace Go.Ab

/-- Blocks that a callee may change: boxes, lists that grow in boxes, the list that it is handed. -/
def Tch (g : Gh) (A : Option Nat) (b : Nat) : Prop := (∃ i, g.β i = some b) ∨ (∃ i o, g.Ow i o = some b) ∨ A = some b

structure ArgsRep (g : Gh) (w : World) (A : Option Nat) (args : List V) (vs : List Value) : Prop where
  rep : All2 (RepV g) args vs
  own : ∀ v u, args[0]? = some v → vs[0]? = some u → OwnV w g.M A v u
  no : ∀ j v, args[j + 1]? = some v → noOwn v
  fresh : ∀ b, A = some b → (∀ i, g.β i ≠ some b) ∧ (∀ i o, g.Ow i o ≠ some b) ∧ b < w.heap.size

structure Post (g : Gh) (w : World) (A : Option Nat) (H : Heap) (g' : Gh) (w' : World) (R : Option Nat) (H' : Heap) : Prop where
  same : Same w w'
  M : ∀ b o v, g.M b o = some v → g'.M b o = some v
  keep : ∀ b, b < w.heap.size → ¬ Tch g A b → w'.heap[b]? = w.heap[b]? ∧ ∀ o, g'.M b o = g.M b o
  βold : ∀ i, i < H.length → g'.β i = g.β i
  β : ∀ i b, g'.β i = some b → Tch g A b ∨ w.heap.size ≤ b
  Ow : ∀ i o b, g'.Ow i o = some b → Tch g A b ∨ w.heap.size ≤ b
  R : ∀ b, R = some b → (Tch g A b ∨ w.heap.size ≤ b) ∧ (∀ i, g'.β i ≠ some b) ∧ (∀ i o, g'.Ow i o ≠ some b) ∧ b < w'.heap.size
  len : H.length ≤ H'.length

/-- A contract: from these arguments and boxes the call returns that, and leaves those boxes. -/
def CallOK (P : Program) (f : Nat) (args : List V) (H : Heap) (r : V) (H' : Heap) : Prop :=
  ∀ (g : Gh) (w : World) (vs : List Value) (A : Option Nat), HInv g H w → ArgsRep g w A args vs →
    Calls P f vs.toArray w fun e w' => ∃ v g' R, e = .returned v ∧ RepV g' r v ∧ OwnV w' g'.M R r v ∧ HInv g' H' w' ∧ Post g w A H g' w' R H'
def CalleeOK (P : Program) (call : Callee) : Prop := ∀ f args H r H', call f args H = some (r, H') → CallOK P f args H r H'

section
variable (P : Program)
def bodyOk (f : Nat) : Bool := match P.funcs[f]? with
  | some fn => fn.body.isSome && fn.name != "runtime.NumGoroutine"
  | none => false
def dstOk (nt : Nat) (dst : Option Nat) (d : Nat) : Bool := (dst == some d) && decide (d < nt)
def dstOk? (nt : Nat) (dst : Option Nat) (d : Option Nat) : Bool := (dst == d) && (match d with | some d => decide (d < nt) | none => true)
def ptrsT (f : Nat) : Bool := true

/-- Is this operation that one? -/
def chkOp (nt : Nat) (o : Oper) : Op' → Bool
  | .q d q => dstOk nt o.dst d && chkQ P o.op q
  | .tk d x => dstOk nt o.dst d && decide (x < nt) && (match o.op with
    | .move (.tmp y) => x == y
    | .assign (.tmp y) => x == y
    | _ => false)
  | .alloc d z => dstOk nt o.dst d && (match o.op with
    | .alloc t => zeroT P t z
    | _ => false)
  | .box d n x => dstOk nt o.dst d && (match o.op with
    | .box t y => opdOk y x
    | _ => false)
  | .st n a x => o.dst == none && (match o.op with
    | .store t b y => opdOk b a && opdOk y x && sizeT P t n
    | _ => false)
  | .ldt d a => dstOk nt o.dst d && (match o.op with
    | .load t b => opdOk b a && isPlainT P t
    | _ => false)
  | .stt a x => o.dst == none && decide (x < nt) && (match o.op with
    | .store t b (.tmp y) => opdOk b a && x == y && sizeT P t 1
    | _ => false)
  | .bsl d e sz n z ps => dstOk nt o.dst d && (match o.op with
    | .buildSlice t n' qs => n' == n && sliceT P t e && sizeT P e sz && zeroT P e z && decide (0 < sz) && decide (n * sz ≤ 2 ^ 24) && partsOk (fun j => some (j * sz, sz)) qs.toList ps
    | _ => false)
  | .bsv d e n ps => dstOk nt o.dst d && (match o.op with
    | .buildSlice t n' qs => n' == n && sliceT P t e && sizeT P e 1 && decide (n ≤ 2 ^ 24) && (match P.info? e with
      | some i => (match i.zero with | some .nilFunc => true | _ => false)
      | none => false) && partsOk (fun j => some (j * 1, 1)) qs.toList ps
    | _ => false)
  | .app d e sz bytes x y => dstOk nt o.dst d && decide (x < nt) && (match o.op with
    | .call { callee := .builtin .append, args, argTypes } => (match args.toList, argTypes.toList with
      | [.tmp x', y'], [t, t'] => x' == x && opdOk y' y && t == t' && sliceT P t e && decide (0 < sz) && decide (0 < bytes) && (match P.info? e with
        | some i => i.size == sz && i.bytes == bytes && (match i.zero with | some z => z.cells.size == sz | none => false)
        | none => false)
      | _, _ => false)
    | _ => false)
  | .call d f args => dstOk? nt o.dst d && (match o.op with
    | .call { callee := .value (.func f'), args := as, .. } => f' == f && opdsOk as.toList args && bodyOk P f
    | _ => false)
  | .callo d f x args => dstOk nt o.dst d && decide (x < nt) && (match o.op with
    | .call { callee := .value (.func f'), args := as, .. } => f' == f && bodyOk P f && (match as.toList with
      | .tmp x' :: as => x' == x && opdsOk as args
      | _ => false)
    | _ => false)
  | .callv d x args => dstOk? nt o.dst d && (match o.op with
    | .call { callee := .value y, args := as, .. } => opdOk y x && opdsOk as.toList args
    | _ => false)
  | _ => false
end

section
variable {P : Program} {fx : Fx} {g : Gh} {S : Nat → Option Nat} {s : St} {a : Act} {w : World} {o : Oper} {Qx : Exit → Act → World → Prop}

theorem wp_value {v : Value} {w' : World} (hrun : (execOp a.eval o).run P w = .ok (.value v) w') {next : Act → World → Prop} (h : next (a.put o.dst v) w') : o.wp P a w next Qx := by
  unfold Oper.wp
  rw [hrun]
  exact h
theorem wp_skip' {w' : World} (hrun : (execOp a.eval o).run P w = .ok .skip w') (hd : o.dst = none) {next : Act → World → Prop} (h : next a w') : o.wp P a w next Qx := by
  unfold Oper.wp
  rw [hrun, Oper.upon_skip, hd]
  exact h
theorem dstOk_spec {nt d : Nat} {dst : Option Nat} (h : dstOk nt dst d = true) : dst = some d ∧ d < nt := by
  simp only [dstOk, Bool.and_eq_true, beq_iff_eq, decide_eq_true_eq] at h; exact h

theorem s_q {d : Nat} {q : Q} (hc : chkOp P fx.nt o (.q d q) = true) {call : Callee} {s' : St} (hs : step call s (.q d q) = some s') (h : SimG fx g S s a w) : o.wp P a w (fun a' w' => Sim fx s' a' w') Qx := by
  simp only [chkOp, Bool.and_eq_true] at hc
  obtain ⟨hd, hc⟩ := hc
  obtain ⟨hd, hlt⟩ := dstOk_spec hd
  simp only [step] at hs
  split at hs
  · rename_i v hv
    cases hs
    obtain ⟨u, hrun, hr, hn⟩ := q_sound h hc hv
    refine wp_value hrun ?_
    rw [hd]
    exact ⟨g, _, h.put hlt hr hn⟩
  · cases hs

theorem s_tk {d x : Nat} (hc : chkOp P fx.nt o (.tk d x) = true) {call : Callee} {s' : St} (hs : step call s (.tk d x) = some s') (h : SimG fx g S s a w) : o.wp P a w (fun a' w' => Sim fx s' a' w') Qx := by
  simp only [chkOp, Bool.and_eq_true, decide_eq_true_eq] at hc
  obtain ⟨⟨hd, hx⟩, hc⟩ := hc
  obtain ⟨hd, hlt⟩ := dstOk_spec hd
  simp only [step] at hs
  cases hs
  have hrun : (execOp a.eval o).run P w = .ok (.value (a.tmps.getD x undef)) w := by
    unfold execOp
    split at hc <;> first | cases hc | (rename_i y e; have := eq_of_beq hc; subst this; simp only [e, Sem.run_pure]; rfl)
  refine wp_value hrun ?_
  rw [hd]
  have h1 := h.drop x
  refine ⟨g, _, h1.putO (x := s.env x) (b? := S x) hlt (h.e.rep x) (h.e.own x) ?_⟩
  intro b hb
  refine ⟨fun t ht => ?_, fun i hi => h.e.β x i b hb hi, fun i o hi => h.e.Ow x i o b hb hi, h.e.lt x b hb, h.ST x b hb⟩
  by_cases e : t = x
  · simp [e]
  · simp only [if_neg e]; intro he; exact e (h.e.inj t x b he hb)

theorem zeroT_spec {t : Nat} {z : List C} (h : zeroT P t z = true) : ∃ zv, (∀ w, (zeroValue t).run P w = .ok zv w) ∧ ∀ g, All2 (RepN g) z zv.cells.toList := by
  unfold zeroT at h
  cases hi : P.info? t with
  | none => simp [hi] at h
  | some i =>
    cases hz : i.zero with
    | none => simp [hi, hz] at h
    | some zv =>
      simp only [hi, hz, Option.any_some] at h
      exact ⟨zv, fun w => by simp [zeroValue, typeInfo, hi, hz], fun g => consts_rep h⟩

/-- A new variable. -/
theorem SimG.newvar (h : SimG fx g S s a w) {arr : Array Value} {T : TypeId} {xs : List C} (hr : All2 (RepN g) xs arr.toList) {d : Nat} (hd : d < fx.nt) :
    Sim fx ⟨upd s.env d (.c (.ptr s.H.length 0)), s.H ++ [⟨true, xs⟩]⟩ (a.put (some d) (.pointer (some ⟨w.heap.size, 0, none⟩))) (w.alloc (.cells arr T)) := by
  have h1 := h.alloc (.cells arr T)
  have hfresh : ∀ {b : Nat}, b < w.heap.size → b ≠ w.heap.size := fun hb e => by omega
  obtain ⟨g', hle, hβ, h2⟩ := h1.newbox (b := w.heap.size) (heap_alloc_new w _) h.same.size
    (fun o => by cases hm : g.M w.heap.size o with
      | none => rfl
      | some v => exact absurd (h.h.Mlt hm) (Nat.lt_irrefl _))
    (fun i hi => absurd (h.h.βlt hi) (Nat.lt_irrefl _)) (fun i o hi => absurd (h.h.owlt _ _ _ hi) (Nat.lt_irrefl _)) (fun t ht => absurd (h.e.lt _ _ ht) (Nat.lt_irrefl _))
    (xs := xs) (by rw [hr.len, List.take_length]; exact hr)
  exact ⟨g', _, h2.put hd (x := .c (.ptr s.H.length 0)) ⟨_, hβ, rfl⟩ trivial⟩

theorem s_alloc {d : Nat} {z : List C} (hc : chkOp P fx.nt o (.alloc d z) = true) {call : Callee} {s' : St} (hs : step call s (.alloc d z) = some s') (h : SimG fx g S s a w) : o.wp P a w (fun a' w' => Sim fx s' a' w') Qx := by
  simp only [chkOp, Bool.and_eq_true] at hc
  obtain ⟨hd, hc⟩ := hc
  obtain ⟨hd, hlt⟩ := dstOk_spec hd
  simp only [step] at hs
  cases hs
  split at hc
  · rename_i t e
    obtain ⟨zv, hz, hr⟩ := zeroT_spec hc
    have hrun : (execOp a.eval o).run P w = .ok (.value (.pointer (some ⟨w.heap.size, 0, none⟩))) (w.alloc (.cells zv.cells t)) := by
      unfold execOp
      simp only [e, Instr.alloc, Sem.run_bind, hz, Result.andThen_ok, newVar, newRow, run_newObj, Sem.run_pure]
      rfl
    refine wp_value hrun ?_
    rw [hd]
    exact h.newvar (hr g) hlt
  · cases hc

theorem s_box {d n : Nat} {x : Opd} (hc : chkOp P fx.nt o (.box d n x) = true) {call : Callee} {s' : St} (hs : step call s (.box d n x) = some s') (h : SimG fx g S s a w) : o.wp P a w (fun a' w' => Sim fx s' a' w') Qx := by
  simp only [chkOp, Bool.and_eq_true] at hc
  obtain ⟨hd, hc⟩ := hc
  obtain ⟨hd, hlt⟩ := dstOk_spec hd
  simp only [step] at hs
  split at hs
  · rename_i xs hxs
    split at hs
    · cases hs
      split at hc
      · rename_i t y e
        have hr := vcells_rep (ev_rep h.e hc) (noOwn_ev hc _) hxs
        have hrun : (execOp a.eval o).run P w = .ok (.value (.pointer (some ⟨w.heap.size, 0, none⟩))) (w.alloc (.cells (a.eval y).cells t)) := by
          unfold execOp
          simp only [e, Instr.box, Sem.run_bind, Result.andThen_ok, newVar, newRow, run_newObj, Sem.run_pure]
          rfl
        refine wp_value hrun ?_
        rw [hd]
        exact h.newvar hr hlt
      · cases hc
    · cases hs
  · cases hs

theorem run_store {t n b off : Nat} {v : Value} (hs : sizeT P t n = true) (hl : v.cells.toList.length = n) (ht : w.there b off n) (h1 : ∀ u ∈ v.cells.toList, u.oneCell' = true) :
    (Instr.storeAt t (.pointer (some ⟨b, off, none⟩)) v).run P w = .ok () (w.setCells b off v.cells.toList) := by
  unfold sizeT at hs
  cases hi : P.info? t with
  | none => simp [hi] at hs
  | some i =>
    simp only [hi, Option.any_some, beq_iff_eq] at hs
    have hl' : v.cells.size = n := by simpa using hl
    have := run_storeAt_mid (P := P) w b off t v.cells (by rw [hl']; exact ht) (by simp [hi, hs, hl']) (Array.all_eq_true_iff_forall_mem.2 fun u hu => h1 u (by simpa using hu))
    exact this

theorem s_st {n : Nat} {a' x : Opd} (hc : chkOp P fx.nt o (.st n a' x) = true) {call : Callee} {s' : St} (hs : step call s (.st n a' x) = some s') (h : SimG fx g S s a w) : o.wp P a w (fun a' w' => Sim fx s' a' w') Qx := by
  simp only [chkOp, Bool.and_eq_true, beq_iff_eq] at hc
  obtain ⟨hd, hc⟩ := hc
  simp only [step] at hs
  split at hs
  · rename_i id off xs e1 e2
    split at hs
    · rename_i hn
      split at hs
      · rename_i H' hst
        cases hs
        split at hc
        · rename_i t b y e
          simp only [Bool.and_eq_true] at hc
          obtain ⟨⟨hb, hy⟩, hsz⟩ := hc
          have r1 := ev_rep h.e hb
          rw [e1] at r1
          obtain ⟨bl, hβ, eu⟩ := RepV.ptr r1
          have hr := vcells_rep (ev_rep h.e hy) (noOwn_ev hy _) e2
          obtain ⟨h', ht⟩ := h.store hβ hr hst
          have hl := hr.len
          have hst2 := run_store (P := P) (w := w) (v := a.eval y) hsz (by omega) (by rw [← hn, hl]; exact ht) (fun u hu => by
              obtain ⟨j, hj⟩ := List.getElem?_of_mem hu
              obtain ⟨c, _, hc⟩ := hr.get' j u hj
              exact hc.1.one)
          have hrun : (execOp a.eval o).run P w = .ok .skip (w.setCells bl off (a.eval y).cells.toList) := by
            unfold execOp
            simp only [e, eu, Sem.run_bind, hst2, Result.andThen_ok, Sem.run_pure]
          exact wp_skip' hrun hd ⟨g, S, h'⟩
        · cases hc
      · cases hs
    · cases hs
  · cases hs

/-- A list that grows is taken out of a box. -/
theorem s_ldt {d : Nat} {a' : Opd} (hc : chkOp P fx.nt o (.ldt d a') = true) {call : Callee} {s' : St} (hs : step call s (.ldt d a') = some s') (h : SimG fx g S s a w) : o.wp P a w (fun a' w' => Sim fx s' a' w') Qx := by
  simp only [chkOp, Bool.and_eq_true] at hc
  obtain ⟨hd, hc⟩ := hc
  obtain ⟨hd, hlt⟩ := dstOk_spec hd
  split at hc
  case h_2 => cases hc
  rename_i t b e
  simp only [Bool.and_eq_true] at hc
  obtain ⟨hb, ht⟩ := hc
  simp only [step] at hs
  split at hs
  case h_2 => cases hs
  rename_i id off e1
  have r1 := ev_rep h.e hb
  rw [e1] at r1
  obtain ⟨bl, hβ, eu⟩ := RepV.ptr r1
  split at hs
  case h_2 => cases hs
  rename_i bx hbx
  obtain ⟨arr, T, h1, h2, h3⟩ := h.h.box id bx bl hbx hβ
  split at hs
  · -- a list of its own
    rename_i e' sz rows hcell
    cases hs
    obtain ⟨v, hv, hrep, hown⟩ := h3 off _ hcell
    have hcl : w.cell? ⟨bl, off, none⟩ = some v := by rw [cell_of_row w bl off arr T (0, 0) h1]; exact hv
    have hrun : (execOp a.eval o).run P w = .ok (.value v) w := by
      unfold execOp
      simp only [e, eu, Sem.run_bind, run_load_plain ht hcl, Result.andThen_ok, Sem.run_pure]
    refine wp_value hrun ?_
    rw [hd]
    have hoff : off < bx.cells.length := (List.getElem?_eq_some_iff.1 hcell).1
    let Ow : Nat → Nat → Option Nat := fun i j => if i = id ∧ j = off then none else g.Ow i j
    have hOw : ∀ i j c, Ow i j = some c → g.Ow i j = some c := by
      intro i j c hc
      have hc : (if i = id ∧ j = off then none else g.Ow i j) = some c := hc
      split at hc
      · cases hc
      · exact hc
    have hle : g.le { g with Ow := Ow } := ⟨fun _ _ h => h, fun _ _ _ h => h⟩
    have hH : HInv { g with Ow := Ow } (s.H.set id ⟨bx.live, bx.cells.set off (.d (.l sz rows))⟩) w := by
      refine h.h.setBox hbx hβ (Nat.le_refl _) (fun _ _ => rfl) h1 (by simpa using h2) ?_ h.h.mem ?_ (h.h.liv id bx bl hbx hβ) ?_ (fun i o j p c hi hj => h.h.owinj i o j p c (hOw _ _ _ hi) (hOw _ _ _ hj)) (fun i o j c hi hj => h.h.owβ i o j c (hOw _ _ _ hi) hj) (fun i o c hi => h.h.owlt i o c (hOw _ _ _ hi))
      · intro j c hj
        by_cases ej : j = off
        · subst ej
          rw [List.getElem?_set_self hoff] at hj
          cases hj
          exact ⟨v, hv, hrep, trivial⟩
        · rw [List.getElem?_set_ne (fun h => ej h.symm)] at hj
          obtain ⟨u, h4, h5, h6⟩ := h3 j c hj
          refine ⟨u, h4, h5, ?_⟩
          show OwnC w g.M (if id = id ∧ j = off then none else g.Ow id j) c u
          rw [if_neg (fun h => ej h.2)]; exact h6
      · intro c hcm
        rcases List.mem_or_eq_of_mem_set hcm with hcm | rfl
        · exact h.h.bnd id bx hbx c hcm
        · simp [bd]
      · intro i j hi
        show (if i = id ∧ j = off then none else g.Ow i j) = _
        rw [if_neg (fun h => hi h.1)]
    have h' : SimG fx { g with Ow := Ow } S ⟨s.env, s.H.set id ⟨bx.live, bx.cells.set off (.d (.l sz rows))⟩⟩ a w :=
      { h := hH
        e := ⟨fun t => (h.e.rep t).mono hle, h.e.own, h.e.inj, h.e.β, fun t i o c ht hc => h.e.Ow t i o c ht (hOw _ _ _ hc), h.e.lt⟩
        sz := h.sz
        defs := h.defs
        same := h.same
        n0 := by simpa using h.n0
        M := h.M
        keep := h.keep
        βold := h.βold
        βT := h.βT
        OwT := fun i o c hc => h.OwT i o c (hOw _ _ _ hc)
        ST := h.ST }
    refine ⟨_, _, h'.putO (x := .c (.own e' sz rows)) (b? := g.Ow id off) hlt (RepC.mono hle hrep) hown ?_⟩
    intro c hc
    refine ⟨fun t _ ht => h.e.Ow t id off c ht hc, fun i hi => h.h.owβ id off i c hc hi, fun i j hi => ?_, h.h.owlt _ _ _ hc, h.OwT _ _ _ hc⟩
    have := h.h.owinj _ _ _ _ _ (hOw _ _ _ hi) hc
    have hi : (if i = id ∧ j = off then none else g.Ow i j) = some c := hi
    rw [if_pos this] at hi
    cases hi
  · -- nil
    rename_i sz hcell
    cases hs
    obtain ⟨v, hv, hrep, hown⟩ := h3 off _ hcell
    have hcl : w.cell? ⟨bl, off, none⟩ = some v := by rw [cell_of_row w bl off arr T (0, 0) h1]; exact hv
    have hrun : (execOp a.eval o).run P w = .ok (.value v) w := by
      unfold execOp
      simp only [e, eu, Sem.run_bind, run_load_plain ht hcl, Result.andThen_ok, Sem.run_pure]
    refine wp_value hrun ?_
    rw [hd]
    exact ⟨_, _, h.put (x := .c (.nil sz)) hlt hrep trivial⟩
  · cases hs

/-- A list that grows is stored in a box. -/
theorem s_stt {x : Nat} {a' : Opd} (hc : chkOp P fx.nt o (.stt a' x) = true) {call : Callee} {s' : St} (hs : step call s (.stt a' x) = some s') (h : SimG fx g S s a w) : o.wp P a w (fun a' w' => Sim fx s' a' w') Qx := by
  simp only [chkOp, Bool.and_eq_true, beq_iff_eq, decide_eq_true_eq] at hc
  obtain ⟨⟨hd, hx⟩, hc⟩ := hc
  split at hc
  case h_2 => cases hc
  rename_i t b y e
  simp only [Bool.and_eq_true, beq_iff_eq] at hc
  obtain ⟨⟨hb, rfl⟩, hsz⟩ := hc
  simp only [step] at hs
  split at hs
  · rename_i id off e' sz rows e1 e2
    have r1 := ev_rep h.e hb
    rw [e1] at r1
    obtain ⟨bl, hβ, eu⟩ := RepV.ptr r1
    split at hs
    case h_2 => cases hs
    rename_i H' hst
    cases hs
    have hev : a.eval (.tmp x) = a.tmps.getD x undef := rfl
    have rx : RepC g (.own e' sz rows) (a.tmps.getD x undef) := by have := h.e.rep x; rw [e2] at this; exact this
    have ox : OwnAt w g.M (S x) e' sz rows (a.tmps.getD x undef) := by have := h.e.own x; rw [e2] at this; exact this
    generalize hvv : a.tmps.getD x undef = v at *
    have hcells : v.cells = #[v] := cells_one rx.one
    unfold storeCells at hst
    split at hst
    case h_2 => cases hst
    rename_i bx hbx
    split at hst
    case isFalse => cases hst
    rename_i hlv
    split at hst
    case isFalse => cases hst
    rename_i hbd
    split at hst
    case h_2 => cases hst
    rename_i cs hcs
    cases hst
    obtain ⟨arr, T, h1, h2, h3⟩ := h.h.box id bx bl hbx hβ
    obtain ⟨p1, p2, p3⟩ := putAt_get hcs
    have hoff : off < bx.cells.length := by have := p3 0 (by simp); simpa using this
    obtain ⟨arr', q1, q2, q3⟩ := setCells_heap bl [v] off w arr T (0, 0) h1
    have hMb := h.h.liv id bx bl hbx hβ hlv
    have hoth := setCells_other bl [v] off w
    have hsame := setCells_same bl [v] off w
    have hth : w.there bl off 1 := by
      intro j hj
      obtain rfl : j = 0 := by omega
      constructor
      · rw [cell_of_row w bl (off + 0) arr T (0, 0) h1]; simp; omega
      · simp [World.frozen?, h1]
    have hst2 := run_store (P := P) (w := w) (v := v) (b := bl) (off := off) hsz (by rw [hcells]; rfl) hth (fun u hu => by rw [hcells] at hu; simp at hu; subst hu; exact rx.one)
    have hrun : (execOp a.eval o).run P w = .ok .skip (w.setCells bl off [v]) := by
      rw [hcells] at hst2
      unfold execOp
      simp only [e, eu, hev, hvv, Sem.run_bind, hst2, Result.andThen_ok, Sem.run_pure]
    refine wp_skip' hrun hd ?_
    let Ow : Nat → Nat → Option Nat := fun i j => if i = id ∧ j = off then S x else g.Ow i j
    have hOw : ∀ i j c, Ow i j = some c → (i = id ∧ j = off ∧ S x = some c) ∨ (¬ (i = id ∧ j = off) ∧ g.Ow i j = some c) := by
      intro i j c hc
      have hc : (if i = id ∧ j = off then S x else g.Ow i j) = some c := hc
      split at hc
      · rename_i hh; exact .inl ⟨hh.1, hh.2, hc⟩
      · rename_i hh; exact .inr ⟨hh, hc⟩
    have hle : g.le { g with Ow := Ow } := ⟨fun _ _ h => h, fun _ _ _ h => h⟩
    have hSb : ∀ c, S x = some c → c ≠ bl := fun c hc e => h.e.β x id c hc (e ▸ hβ)
    have hH : HInv { g with Ow := Ow } (s.H.set id ⟨true, cs⟩) (w.setCells bl off [v]) := by
      refine h.h.setBox hbx hβ hsame.size hoth q1 (by rw [p1, q2]; exact h2) ?_ ?_ ?_ (fun _ => hMb) ?_ ?_ ?_ ?_
      · intro j c hj
        rw [p2 j] at hj
        by_cases ej : j = off
        · subst ej
          rw [if_pos (by simp)] at hj
          simp at hj; subst hj
          refine ⟨v, by rw [q3 j, if_pos (by simp; omega)]; simp, rx, ?_⟩
          show OwnC _ g.M (if id = id ∧ j = j then S x else g.Ow id j) _ v
          rw [if_pos ⟨rfl, rfl⟩]
          exact OwnAt.congr ox fun c hc => ⟨hoth c (hSb c hc), fun _ => rfl⟩
        · rw [if_neg (by simp; omega)] at hj
          obtain ⟨u, h4, h5, h6⟩ := h3 j c hj
          refine ⟨u, by rw [q3 j, if_neg (by simp; omega)]; exact h4, h5, ?_⟩
          show OwnC _ g.M (if id = id ∧ j = off then S x else g.Ow id j) c u
          rw [if_neg (fun h => ej h.2)]
          exact h6.congr fun c hc => ⟨hoth c (fun e => h.h.owβ id j id c hc (e ▸ hβ)), fun _ => rfl⟩
      · intro c o v' hm
        have hne : c ≠ bl := fun e => by subst e; rw [hMb o] at hm; cases hm
        rw [World.cell?_of_block (a := ⟨c, o, none⟩) (hoth c hne)]
        exact h.h.mem c o v' hm
      · intro c hcm
        obtain ⟨j, hj⟩ := List.getElem?_of_mem hcm
        rw [p2 j] at hj
        split at hj
        · rename_i hr
          have : j - off = 0 := by simp at hr; omega
          rw [this] at hj; simp at hj; subst hj; simp [bd]
        · exact h.h.bnd id bx hbx c (List.mem_of_getElem? hj)
      · intro i j hi
        show (if i = id ∧ j = off then S x else g.Ow i j) = _
        rw [if_neg (fun h => hi h.1)]
      · intro i o j p c hi hj
        rcases hOw _ _ _ hi with ⟨i1, i2, hs1⟩ | ⟨hn1, hi'⟩
        · rcases hOw _ _ _ hj with ⟨j1, j2, _⟩ | ⟨hn2, hj'⟩
          · exact ⟨i1.trans j1.symm, i2.trans j2.symm⟩
          · exact (h.e.Ow x j p c hs1 hj').elim
        · rcases hOw _ _ _ hj with ⟨j1, j2, hs1⟩ | ⟨hn2, hj'⟩
          · exact (h.e.Ow x i o c hs1 hi').elim
          · exact h.h.owinj _ _ _ _ _ hi' hj'
      · intro i o j c hi hj
        rcases hOw _ _ _ hi with ⟨_, _, hs1⟩ | ⟨_, hi⟩
        · exact h.e.β x j c hs1 hj
        · exact h.h.owβ i o j c hi hj
      · intro i o c hi
        rcases hOw _ _ _ hi with ⟨_, _, hs1⟩ | ⟨_, hi⟩
        · exact Nat.lt_of_lt_of_le (h.e.lt x c hs1) hsame.size
        · exact Nat.lt_of_lt_of_le (h.h.owlt i o c hi) hsame.size
    have hTb : fx.T bl ∨ fx.w0.heap.size ≤ bl := h.βT id bl hβ
    have hdr := h.drop x
    rw [e2] at hdr
    refine ⟨{ g with Ow := Ow }, fun u => if u = x then none else S u, ?_⟩
    exact
      { h := hH
        e := ⟨fun t => (hdr.e.rep t).mono hle, fun t => (hdr.e.own t).congr fun c hc => ⟨hoth c (fun e => hdr.e.β t id c hc (e ▸ hβ)), fun _ => rfl⟩, hdr.e.inj, hdr.e.β,
          fun t i o c ht hc => by
            rcases hOw _ _ _ hc with ⟨_, _, hs1⟩ | ⟨_, hc⟩
            · by_cases et : t = x
              · simp [et] at ht
              · simp only [if_neg et] at ht; exact et (h.e.inj t x c ht hs1)
            · exact hdr.e.Ow t i o c ht hc,
          fun t c hc => Nat.lt_of_lt_of_le (hdr.e.lt t c hc) hsame.size⟩
        sz := h.sz
        defs := h.defs
        same := h.same.trans hsame
        n0 := by simpa using h.n0
        M := h.M
        keep := fun c hl' hT => by
          have hne : c ≠ bl := fun e => by subst e; rcases hTb with h' | h' <;> first | exact hT h' | omega
          exact ⟨by rw [hoth c hne]; exact (h.keep c hl' hT).1, (h.keep c hl' hT).2⟩
        βold := h.βold
        βT := h.βT
        OwT := fun i o c hc => by
          rcases hOw _ _ _ hc with ⟨_, _, hs1⟩ | ⟨_, hc⟩
          · exact h.ST x c hs1
          · exact h.OwT i o c hc
        ST := hdr.ST }
  · rename_i id off sz e1 e2
    have r1 := ev_rep h.e hb
    rw [e1] at r1
    obtain ⟨bl, hβ, eu⟩ := RepV.ptr r1
    split at hs
    case h_2 => cases hs
    rename_i H' hst
    cases hs
    have hev : a.eval (.tmp x) = a.tmps.getD x undef := rfl
    have rx : RepC g (.nil sz) (a.tmps.getD x undef) := by have := h.e.rep x; rw [e2] at this; exact this
    generalize hvv : a.tmps.getD x undef = v at *
    have hcells : v.cells = #[v] := cells_one rx.one
    obtain ⟨h', ht⟩ := h.store (us := [v]) hβ (.cons ⟨rx, trivial⟩ .nil) hst
    have hst2 := run_store (P := P) (w := w) (v := v) (b := bl) (off := off) hsz (by rw [hcells]; rfl) ht (fun u hu => by rw [hcells] at hu; simp at hu; subst hu; exact rx.one)
    have hrun : (execOp a.eval o).run P w = .ok .skip (w.setCells bl off [v]) := by
      rw [hcells] at hst2
      unfold execOp
      simp only [e, eu, hev, hvv, Sem.run_bind, hst2, Result.andThen_ok, Sem.run_pure]
    exact wp_skip' hrun hd ⟨g, S, h'⟩
  · cases hs
end
end Go.Ab
