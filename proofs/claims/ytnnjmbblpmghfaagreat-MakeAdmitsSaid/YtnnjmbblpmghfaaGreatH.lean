/-
  Lists that grow, and calls.
  Conditions: the callees' contracts.
-/
import Derived.Test.YtnnjmbblpmghfaaGreatG
set_option linter.unusedSimpArgs false
set_option linter.unusedVariables false
namespace Go.Ab
section
variable {P : Program} {fx : Fx} {g : Gh} {S : Nat → Option Nat} {s : St} {a : Act} {w : World} {o : Oper} {Qx : Exit → Act → World → Prop}

/-- The world goes on; one row, which no box has and no slot, may have grown. -/
theorem SimG.world2 (h : SimG fx g S s a w) {w' : World} (hs : Same w w') (row : Option Nat) (hb : ∀ b, b < w.heap.size → some b ≠ row → w'.heap[b]? = w.heap[b]?)
    (hr : ∀ b, row = some b → (∀ i, g.β i ≠ some b) ∧ (∀ i o, g.Ow i o ≠ some b) ∧ (∀ t, S t ≠ some b) ∧ (fx.T b ∨ fx.w0.heap.size ≤ b) ∧ ∀ o v, g.M b o = some v → w'.cell? ⟨b, o, none⟩ = some v) : SimG fx g S s a w' where
  h := by
    have hne : ∀ b, ((∃ i, g.β i = some b) ∨ (∃ i o, g.Ow i o = some b)) → some b ≠ row := by
      intro b hb' e
      rcases hb' with ⟨i, hi⟩ | ⟨i, o, hi⟩
      · exact (hr b e.symm).1 i hi
      · exact (hr b e.symm).2.1 i o hi
    constructor
    · intro b o v hm
      by_cases e : row = some b
      · exact (hr b e).2.2.2.2 o v hm
      · rw [World.cell?_of_block (a := ⟨b, o, none⟩) (hb b (h.h.Mlt hm) (fun e' => e e'.symm))]
        exact h.h.mem b o v hm
    · exact h.h.dom
    · intro i bx b hi hβ
      obtain ⟨arr, T, h1, h2, h3⟩ := h.h.box i bx b hi hβ
      refine ⟨arr, T, by rw [hb b (h.h.βlt hβ) (hne b (.inl ⟨i, hβ⟩))]; exact h1, h2, fun j c hj => ?_⟩
      obtain ⟨v, h4, h5, h6⟩ := h3 j c hj
      exact ⟨v, h4, h5, h6.congr fun b hw => ⟨hb b (h.h.owlt _ _ _ hw) (hne b (.inr ⟨i, j, hw⟩)), fun _ => rfl⟩⟩
    · exact h.h.liv
    · exact h.h.bnd
    · exact h.h.inj
    · exact h.h.owinj
    · exact h.h.owβ
    · exact fun i o b hw => Nat.lt_of_lt_of_le (h.h.owlt i o b hw) hs.size
  e := ⟨h.e.rep, fun t => (h.e.own t).congr fun b hS => ⟨hb b (h.e.lt t b hS) (fun e => (hr b e.symm).2.2.1 t hS), fun _ => rfl⟩, h.e.inj, h.e.β, h.e.Ow, fun t b hS => Nat.lt_of_lt_of_le (h.e.lt t b hS) hs.size⟩
  sz := h.sz
  defs := h.defs
  same := h.same.trans hs
  n0 := h.n0
  M := h.M
  keep b hl hT := by
    have := h.keep b hl hT
    refine ⟨?_, this.2⟩
    rw [hb b (Nat.lt_of_lt_of_le hl h.same.size) (fun e => ?_)]
    · exact this.1
    · rcases (hr b e.symm).2.2.2.1 with h' | h'
      · exact hT h'
      · omega
  βold := h.βold
  βT := h.βT
  OwT := h.OwT
  ST := h.ST

/-- A slot comes to own a row. -/
theorem SimG.putOwn (h : SimG fx g S s a w) {d : Nat} (hd : d < fx.nt) {e sz : Nat} {rows : List (List D)} {v : Value} {cells : List Value} (hrow : w.ownsRow 0 e sz v rows.length cells) (hsz : 0 < sz) (hlen : ∀ r ∈ rows, r.length = sz)
    (hrep : All2 (RepD g.M) rows.flatten cells) (hold : ∀ b o u, v.ownBlock = some b → g.M b o = some u → cells[o]? = some u)
    (hfresh : ∀ b, v.ownBlock = some b → (∀ i, g.β i ≠ some b) ∧ (∀ i o, g.Ow i o ≠ some b) ∧ (∀ t, S t ≠ some b) ∧ (fx.T b ∨ fx.w0.heap.size ≤ b)) :
    Sim fx ⟨upd s.env d (.c (.own e sz rows)), s.H⟩ (a.put (some d) v) w := by
  let M' : Mem := fun b o => if v.ownBlock = some b then cells[o]? else g.M b o
  have hM : ∀ b o u, g.M b o = some u → M' b o = some u := by
    intro b o u hm
    show (if v.ownBlock = some b then cells[o]? else g.M b o) = some u
    split
    · rename_i e; exact hold b o u e hm
    · exact hm
  obtain ⟨hle, h1⟩ := h.growM (M' := M') hM (by
    intro b o u hm
    have hm : (if v.ownBlock = some b then cells[o]? else g.M b o) = some u := hm
    split at hm
    · rename_i e
      have := hrow.cells e o u hm
      rwa [Addr.add_mid, Nat.zero_add] at this
    · exact h.h.mem b o u hm) (by
    intro b ⟨o, hne⟩
    have : v.ownBlock = some b := by
      apply Classical.byContradiction
      intro hh
      exact hne (by show (if v.ownBlock = some b then cells[o]? else g.M b o) = g.M b o; rw [if_neg hh])
    exact hfresh b this)
  have hcl : cells.length = rows.length * sz := hrow.1
  have hRep : RepD M' (.l sz rows) v := by
    rcases hrow.2 with ⟨rfl, hn⟩ | ⟨b, cap, cur, rfl, hb, hg, hnc, hcm, hcs, htake⟩
    · have : rows = [] := List.eq_nil_of_length_eq_zero hn
      subst this
      exact .l0 _ _ _
    · by_cases h0 : rows = []
      · subst h0; exact .l0 _ _ _
      · refine .l sz rows b 0 cap (fun k => cells.getD k undef) h0 hnc hlen ?_ ?_
        · intro k x hk
          obtain ⟨u, hu, _⟩ := hrep.get k x hk
          show (if Value.ownBlock _ = some b then cells[0 + k]? else _) = _
          rw [if_pos (show Value.ownBlock _ = some b from rfl), Nat.zero_add, hu]; simp [List.getD, hu]
        · intro k x hk
          obtain ⟨u, hu, hr⟩ := hrep.get k x hk
          have : cells.getD k undef = u := by simp [List.getD, hu]
          show RepD M' x (cells.getD k undef)
          rw [this]; exact hr.mono hM
  refine ⟨_, _, h1.putO (x := .c (.own e sz rows)) (v := v) (b? := v.ownBlock) hd hRep ?_ ?_⟩
  · refine ⟨cells, hrow, rfl, hsz, fun b hb o ho => ?_⟩
    show (if v.ownBlock = some b then cells[o]? else g.M b o) = none
    rw [if_pos hb]
    exact List.getElem?_eq_none (by omega)
  · intro b hb
    obtain ⟨h2, h3, h4, h5⟩ := hfresh b hb
    exact ⟨fun t _ => h4 t, h2, h3, (hrow.lt b hb).2, h5⟩

theorem chop_spec {sz : Nat} : ∀ {n : Nat} {l : List D}, l.length = n * sz → (chop sz n l).flatten = l ∧ (chop sz n l).length = n ∧ ∀ r ∈ chop sz n l, r.length = sz
  | 0, l, h => by
    have : l = [] := List.eq_nil_of_length_eq_zero (by simpa using h)
    subst this; simp [chop]
  | n + 1, l, h => by
    have hl : sz ≤ l.length := by rw [h, Nat.succ_mul]; omega
    obtain ⟨h1, h2, h3⟩ := chop_spec (sz := sz) (n := n) (l := l.drop sz) (by rw [List.length_drop, h, Nat.succ_mul]; omega)
    refine ⟨by simp [chop, h1], by simp [chop, h2], ?_⟩
    intro r hr
    simp only [chop, List.mem_cons] at hr
    rcases hr with rfl | hr
    · simp; omega
    · exact h3 r hr
theorem allD_repC : ∀ {cs : List C} {l : List D} {us : List Value}, allD cs = some l → All2 (RepC g) cs us → All2 (RepD g.M) l us
  | [], l, us, h, r => by simp only [allD] at h; cases h; cases r; exact .nil
  | c :: cs, l, us, h, r => by
    cases r with
    | cons hc hr =>
      simp only [allD] at h
      split at h
      · rename_i y ys hy hys
        cases h
        exact .cons (toD_rep hy hc) (allD_repC hys hr)
      · cases h
theorem allD_rep {cs : List C} {l : List D} {us : List Value} (h : allD cs = some l) (r : All2 (RepN g) cs us) : All2 (RepD g.M) l us := allD_repC h (r.mono fun _ _ _ h => h.1)
theorem allD_len : ∀ {cs : List C} {l : List D}, allD cs = some l → l.length = cs.length
  | [], l, h => by simp only [allD] at h; cases h; rfl
  | c :: cs, l, h => by
    simp only [allD] at h
    split at h
    · rename_i y ys hy hys; cases h; simp [allD_len hys]
    · cases h
theorem rep_get {α : Type} (z : List α) (hz : 0 < z.length) : ∀ (n j : Nat), ((List.replicate n z).flatten)[j]? = if j < n * z.length then z[j % z.length]? else none
  | 0, j => by simp
  | n + 1, j => by
    rw [List.replicate_succ, List.flatten_cons]
    by_cases h : j < z.length
    · rw [List.getElem?_append_left h, Nat.mod_eq_of_lt h, if_pos (by rw [Nat.succ_mul]; omega)]
    · rw [List.getElem?_append_right (by omega), rep_get z hz n]
      rw [show j % z.length = (j - z.length) % z.length by rw [Nat.mod_eq_sub_mod (by omega)]]
      by_cases h2 : j - z.length < n * z.length
      · rw [if_pos h2, if_pos (by rw [Nat.succ_mul]; omega)]
      · rw [if_neg h2, if_neg (by rw [Nat.succ_mul]; omega)]
theorem putAll_len {e : Env} : ∀ {ps : List (Nat × Nat × Opd)} {cs cs' : List C}, putAll e cs ps = some cs' → cs'.length = cs.length
  | [], cs, cs', h => by simp only [putAll] at h; cases h; rfl
  | (off, n, x) :: ps, cs, cs', h => by
    simp only [putAll] at h
    split at h
    · split at h
      · split at h
        · rename_i c2 hc2
          rw [putAll_len h, (putAt_get hc2).1]
        · cases h
      · cases h
    · cases h

theorem s_bsl {d e sz n : Nat} {z : List C} {ps : List (Nat × Nat × Opd)} (hc : chkOp P fx.nt o (.bsl d e sz n z ps) = true) {call : Callee} {s' : St} (hs : step call s (.bsl d e sz n z ps) = some s') (h : SimG fx g S s a w) :
    o.wp P a w (fun a' w' => Sim fx s' a' w') Qx := by
  simp only [chkOp, Bool.and_eq_true] at hc
  obtain ⟨hd, hc⟩ := hc
  obtain ⟨hd, hlt⟩ := dstOk_spec hd
  split at hc
  case h_2 => cases hc
  rename_i t n' qs eo
  simp only [Bool.and_eq_true, beq_iff_eq, decide_eq_true_eq] at hc
  obtain ⟨⟨⟨⟨⟨⟨rfl, hst⟩, hsz⟩, hz⟩, hsz0⟩, hmax⟩, hparts⟩ := hc
  simp only [step] at hs
  split at hs
  case h_2 => cases hs
  rename_i cs hcs
  split at hs
  case h_2 => cases hs
  rename_i l hl
  split at hs
  case isFalse => cases hs
  rename_i hzl
  cases hs
  have hte : P.underlying t = some (.slice e) := by
    unfold sliceT at hst
    split at hst
    · rename_i e' he'; rw [he', eq_of_beq hst]
    · cases hst
  obtain ⟨zv, hzr, hzrep⟩ := zeroT_spec hz
  have rz := hzrep g
  have hzs : zv.cells.size = sz := by have := rz.len; simp at this; omega
  let base : Array Value := (Array.range (n' * sz)).map (zv.cells[· % zv.cells.size]!)
  have hbase : All2 (RepN g) ((List.replicate n' z).flatten) base.toList := by
    refine All2.of_get ?_ ?_
    · simp [base, hzl]
    · intro j x u hx hu
      rw [rep_get z (by omega) n' j] at hx
      split at hx
      · rename_i hj
        have hjs : j % z.length < zv.cells.size := by rw [hzl, hzs]; exact Nat.mod_lt _ hsz0
        obtain ⟨u', hu', hr⟩ := rz.get _ x hx
        simp only [base, Array.toList_map, List.getElem?_map, Array.toList_range] at hu
        rw [List.getElem?_range (by rw [hzl] at hj; exact hj)] at hu
        simp only [Option.map_some, Option.some.injEq] at hu
        have : u = u' := by
          rw [← hu, hzs, ← hzl]
          rw [getElem!_pos zv.cells _ hjs]
          rw [Array.getElem?_toList, Array.getElem?_eq_getElem hjs] at hu'
          injection hu'
        subst this
        exact hr
      · cases hx
  obtain ⟨arr, e1, e2⟩ := fill_rep h.e qs.toList ps base _ cs hparts hbase hcs
  have hrun : (execOp a.eval o).run P w = .ok (.value (.slice (some ⟨w.heap.size, 0, none⟩) n' n')) (w.alloc (.cells arr e)) := by
    unfold execOp
    by_cases h0 : n' * sz = 0
    · have hb : ((Array.range 0).map ((#[] : Array Value)[· % (#[] : Array Value).size]!)) = base := by simp [base, h0]
      simp only [eo, Instr.buildSlice, Sem.run_bind, run_underlying hte, Result.andThen_ok, sizeT_run hsz, h0, show ¬ (0 : Nat) > 2 ^ 24 by decide, if_false, if_true, Sem.run_pure, hb, Array.toList_map, e1, newRow, run_newObj]
      rfl
    · simp only [eo, Instr.buildSlice, Sem.run_bind, run_underlying hte, Result.andThen_ok, sizeT_run hsz, show ¬ n' * sz > 2 ^ 24 by omega, if_false, h0, Sem.run_pure, hzr]
      show ((match Instr.fill _ base _ with | some cells => _ | x => _ : Sem Value).run P w).andThen _ = _
      simp only [Array.toList_map, e1, newRow, Sem.run_bind, run_newObj, Sem.run_pure, Result.andThen_ok]
      rfl
  refine wp_value hrun ?_
  rw [hd]
  have hll : l.length = n' * sz := by rw [allD_len hl, putAll_len hcs]; simp [hzl]
  obtain ⟨c1, c2, c3⟩ := chop_spec hll
  have harr : arr.toList.length = n' * sz := by rw [← e2.len, putAll_len hcs]; simp [hzl]
  have h1 := h.alloc (.cells arr e)
  refine h1.putOwn hlt (cells := arr.toList) ?_ hsz0 c3 (by rw [c1]; exact allD_rep hl e2) ?_ ?_
  · rw [c2]
    refine ⟨harr, .inr ⟨w.heap.size, n', arr, rfl, Nat.zero_le _, heap_alloc_new w _, Nat.le_refl _, ?_, by simpa using harr, ?_⟩⟩
    · have : n' ≤ n' * sz := Nat.le_mul_of_pos_right _ hsz0
      simp only [maxLen]; omega
    · exact List.take_of_length_le (Nat.le_of_eq harr)
  · intro b o' u hb hm
    simp only [Value.ownBlock] at hb
    cases hb
    exact absurd (h.h.Mlt hm) (Nat.lt_irrefl _)
  · intro b hb
    simp only [Value.ownBlock] at hb
    cases hb
    exact ⟨fun i hi => absurd (h.h.βlt hi) (Nat.lt_irrefl _), fun i o hi => absurd (h.h.owlt _ _ _ hi) (Nat.lt_irrefl _), fun t ht => absurd (h.e.lt _ _ ht) (Nat.lt_irrefl _), .inr h.same.size⟩
end
end Go.Ab
