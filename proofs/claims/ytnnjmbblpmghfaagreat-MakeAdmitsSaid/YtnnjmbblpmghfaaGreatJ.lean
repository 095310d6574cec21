/-
  Calls, and all operations in one lemma; regions in the order of the text.
  Conditions: the callees' contracts.
-/
import Derived.Test.YtnnjmbblpmghfaaGreatI
set_option linter.unusedSimpArgs false
set_option linter.unusedVariables false
namespace Go.Ab
section
variable {P : Program} {fx : Fx} {g : Gh} {S : Nat → Option Nat} {s : St} {a : Act} {w : World} {o : Oper} {Qx : Exit → Act → World → Prop}

/-- Behind a call. -/
theorem SimG.after (h : SimG fx g S s a w) {A : Option Nat} (hA : ∀ b, A = some b → (∀ t, S t ≠ some b) ∧ (fx.T b ∨ fx.w0.heap.size ≤ b)) {g' : Gh} {w' : World} {R : Option Nat} {H' : Heap} (hp : Post g w A s.H g' w' R H') (hH : HInv g' H' w')
    {d : Option Nat} (hd : ∀ t, d = some t → t < fx.nt) {r : V} {v : Value} (hr : RepV g' r v) (ho : OwnV w' g'.M R r v) : Sim fx ⟨setD s.env d r, H'⟩ (a.put d v) w' := by
  have hnT : ∀ t b, S t = some b → ¬ Tch g A b := by
    intro t b ht hT
    rcases hT with ⟨i, hi⟩ | ⟨i, o, hi⟩ | hT
    · exact h.e.β t i b ht hi
    · exact h.e.Ow t i o b ht hi
    · exact (hA b hT).1 t ht
  have hTT : ∀ b, Tch g A b → fx.T b ∨ fx.w0.heap.size ≤ b := by
    intro b hT
    rcases hT with ⟨i, hi⟩ | ⟨i, o, hi⟩ | hT
    · exact h.βT i b hi
    · exact h.OwT i o b hi
    · exact (hA b hT).2
  have hor : ∀ b, Tch g A b ∨ w.heap.size ≤ b → fx.T b ∨ fx.w0.heap.size ≤ b := by
    intro b hb
    rcases hb with hb | hb
    · exact hTT b hb
    · exact .inr (Nat.le_trans h.same.size hb)
  have hle : g.le g' := ⟨fun i b hi => by rw [hp.βold i (h.h.dom i b hi)]; exact hi, hp.M⟩
  have hSn : ∀ t b, S t = some b → ¬ (Tch g A b ∨ w.heap.size ≤ b) := by
    intro t b ht hb
    rcases hb with hb | hb
    · exact hnT t b ht hb
    · have := h.e.lt t b ht; omega
  have h1 : SimG fx g' S ⟨s.env, H'⟩ a w' :=
    { h := hH
      e := ⟨fun t => (h.e.rep t).mono hle, fun t => (h.e.own t).congr fun b hb => hp.keep b (h.e.lt t b hb) (hnT t b hb), h.e.inj,
        fun t i b ht hi => hSn t b ht (hp.β i b hi), fun t i o b ht hi => hSn t b ht (hp.Ow i o b hi), fun t b hb => Nat.lt_of_lt_of_le (h.e.lt t b hb) hp.same.size⟩
      sz := h.sz
      defs := h.defs
      same := h.same.trans hp.same
      n0 := Nat.le_trans h.n0 hp.len
      M := fun b o v hv => hp.M b o v (h.M b o v hv)
      keep := fun b hl hT => by
        have h1 := h.keep b hl hT
        have h2 := hp.keep b (Nat.lt_of_lt_of_le hl h.same.size) (fun hh => by
          rcases hTT b hh with h' | h'
          · exact hT h'
          · omega)
        exact ⟨h2.1.trans h1.1, fun o => (h2.2 o).trans (h1.2 o)⟩
      βold := fun i hi => (hp.βold i (Nat.lt_of_lt_of_le hi h.n0)).trans (h.βold i hi)
      βT := fun i b hi => hor b (hp.β i b hi)
      OwT := fun i o b hi => hor b (hp.Ow i o b hi)
      ST := h.ST }
  cases d with
  | none => exact ⟨g', S, by simpa [setD, Act.put] using h1⟩
  | some d =>
    refine ⟨g', _, h1.putO (b? := R) (hd d rfl) hr ho ?_⟩
    intro b hb
    obtain ⟨q1, q2, q3, q4⟩ := hp.R b hb
    exact ⟨fun t _ ht => hSn t b ht q1, q2, q3, q4, hor b q1⟩

theorem run_call {f : Nat} {vs : List Value} (hb : bodyOk P f = true) : (callFunc f vs.toArray).run P w = .ok (.enter f vs.toArray) w := by
  unfold bodyOk at hb
  unfold callFunc
  split at hb
  · rename_i fn hfn
    simp only [Bool.and_eq_true, bne_iff_ne, ne_eq] at hb
    obtain ⟨hbody, hname⟩ := hb
    have h1 : (fn.name == "runtime.NumGoroutine") = false := by simpa using hname
    have h2 : fn.body.isNone = false := by cases hh : fn.body <;> simp_all
    have h3 : fn.body ≠ none := by intro e; rw [e] at hbody; cases hbody
    simp [hfn, hname, h3]
  · cases hb

theorem exec_call {c : Call} (ho : o.op = .call c) {f' : Nat} (hcal : c.callee = .value (.func f')) (hb : bodyOk P f' = true) : (execOp a.eval o).run P w = .ok (.enter f' (c.args.toList.map a.eval).toArray) w := by
  unfold execOp
  have he : a.eval (.func f') = .func (.func f') #[] #[] := rfl
  have hargs : (#[] ++ c.args.map a.eval ++ #[] : Array Value) = (c.args.toList.map a.eval).toArray := by apply Array.ext'; simp
  simp only [ho, resolve, hcal, he, Deferred.ofValue, Sem.run_bind, Sem.run_pure, Result.andThen_ok, invoke, hargs]
  exact run_call hb

theorem evs_rep (he : EInv g S s.env a w) : ∀ {xs : List Operand} {ys : List Opd}, opdsOk xs ys = true → All2 (RepV g) (evs s.env ys) (xs.map a.eval) ∧ ∀ v ∈ evs s.env ys, noOwn v
  | [], [], _ => ⟨.nil, fun v hv => by simp [evs] at hv⟩
  | x :: xs, [], h => by simp [opdsOk] at h
  | [], y :: ys, h => by simp [opdsOk] at h
  | x :: xs, y :: ys, h => by
    simp only [opdsOk, Bool.and_eq_true] at h
    obtain ⟨h1, h2⟩ := evs_rep he h.2
    refine ⟨.cons (nm_rep (ev_rep he h.1)) h1, ?_⟩
    intro v hv
    simp only [evs, List.mem_cons] at hv
    rcases hv with rfl | hv
    · cases hh : ev s.env y with
      | c x => cases x <;> trivial
      | agg => trivial
      | tup => trivial
    · exact h2 v hv

theorem args_plain {args : List V} {vs : List Value} (h1 : All2 (RepV g) args vs) (h2 : ∀ v ∈ args, noOwn v) : ArgsRep g w none args vs :=
  ⟨h1, fun v u hv _ => OwnV.of_noOwn (h2 v (List.mem_of_getElem? hv)), fun j v hv => h2 v (List.mem_of_getElem? hv), fun b hb => by cases hb⟩

theorem wp_enter {f : Nat} {vs : List Value} (hrun : (execOp a.eval o).run P w = .ok (.enter f vs.toArray) w) {next : Act → World → Prop} {args : List V} {H : Heap} {r : V} {H' : Heap} (hc : CallOK P f args H r H') (hh : HInv g H w) {A : Option Nat} (ha : ArgsRep g w A args vs)
    (h : ∀ v g' w' R, RepV g' r v → OwnV w' g'.M R r v → HInv g' H' w' → Post g w A H g' w' R H' → next (a.put o.dst v) w') : o.wp P a w next Qx := by
  unfold Oper.wp
  rw [hrun, Oper.upon_enter]
  refine (hc g w vs A hh ha).mono ?_
  rintro e w' ⟨v, g', R, rfl, h1, h2, h3, h4⟩
  exact h v g' w' R h1 h2 h3 h4

theorem s_call {d : Option Nat} {f : Nat} {args : List Opd} (hc : chkOp P fx.nt o (.call d f args) = true) {call : Callee} (hcal : CalleeOK P call) {s' : St} (hs : step call s (.call d f args) = some s') (h : SimG fx g S s a w) :
    o.wp P a w (fun a' w' => Sim fx s' a' w') Qx := by
  simp only [chkOp, Bool.and_eq_true] at hc
  obtain ⟨hd, hc⟩ := hc
  simp only [dstOk?, Bool.and_eq_true, beq_iff_eq] at hd
  obtain ⟨hd, hdl⟩ := hd
  split at hc
  case h_2 => cases hc
  rename_i f' as ats eo
  simp only [Bool.and_eq_true, beq_iff_eq] at hc
  obtain ⟨⟨rfl, hargs⟩, hb⟩ := hc
  simp only [step] at hs
  split at hs
  case h_2 => cases hs
  rename_i v H' hcall
  cases hs
  obtain ⟨ha1, ha2⟩ := evs_rep h.e hargs
  refine wp_enter (exec_call eo rfl hb) (hcal _ _ _ _ _ hcall) h.h (args_plain ha1 ha2) ?_
  intro v g' w' R h1 h2 h3 h4
  rw [hd]
  exact h.after (fun b hb => by cases hb) h4 h3 (fun t ht => by subst ht; simpa using hdl) h1 h2

theorem s_callo {d f x : Nat} {args : List Opd} (hc : chkOp P fx.nt o (.callo d f x args) = true) {call : Callee} (hcal : CalleeOK P call) {s' : St} (hs : step call s (.callo d f x args) = some s') (h : SimG fx g S s a w) :
    o.wp P a w (fun a' w' => Sim fx s' a' w') Qx := by
  simp only [chkOp, Bool.and_eq_true, decide_eq_true_eq] at hc
  obtain ⟨⟨hd, hx⟩, hc⟩ := hc
  obtain ⟨hd, hlt⟩ := dstOk_spec hd
  split at hc
  case h_2 => cases hc
  rename_i f' as ats eo
  simp only [Bool.and_eq_true, beq_iff_eq] at hc
  obtain ⟨⟨rfl, hb⟩, hc⟩ := hc
  split at hc
  case h_2 => cases hc
  rename_i x' as' eas
  simp only [Bool.and_eq_true, beq_iff_eq] at hc
  obtain ⟨rfl, hargs⟩ := hc
  simp only [step] at hs
  split at hs
  case h_2 => cases hs
  rename_i v H' hcall
  cases hs
  obtain ⟨ha1, ha2⟩ := evs_rep h.e hargs
  have hev : a.eval (.tmp x') = a.tmps.getD x' undef := rfl
  have hvs : as.toList.map a.eval = a.tmps.getD x' undef :: as'.map a.eval := by rw [eas]; rfl
  refine wp_enter (g := g) (A := S x') (args := s.env x' :: evs s.env args) (vs := a.tmps.getD x' undef :: as'.map a.eval) (by rw [← hvs]; exact exec_call eo rfl hb) (hcal _ _ _ _ _ hcall) h.h ?_ ?_
  · refine ⟨.cons (h.e.rep x') ha1, ?_, ?_, ?_⟩
    · intro v u hv hu
      have hv : s.env x' = v := by simpa using hv
      have hu : a.tmps.getD x' undef = u := by simpa only [List.getElem?_cons_zero, Option.some.injEq] using hu
      subst hv hu
      exact h.e.own x'
    · intro j v hv
      simp at hv
      exact ha2 v (List.mem_of_getElem? hv)
    · intro b hb
      exact ⟨fun i hi => h.e.β x' i b hb hi, fun i o hi => h.e.Ow x' i o b hb hi, h.e.lt x' b hb⟩
  · intro v g' w' R h1 h2 h3 h4
    rw [hd]
    have h0 := h.drop x'
    exact h0.after (d := some d) (fun b hb => ⟨fun t ht => by
      by_cases et : t = x'
      · simp [et] at ht
      · simp only [if_neg et] at ht; exact et (h.e.inj t x' b ht hb), h.ST x' b hb⟩) h4 h3 (fun t ht => by cases ht; exact hlt) h1 h2

theorem ptrs_vals {g : Gh} : ∀ {ps : List (Nat × Nat)} {vs : List Value}, All2 (PtrRep g) ps vs → All2 (RepV g) (ps.map fun p => V.c (.ptr p.1 p.2)) vs
  | [], _, .nil => .nil
  | p :: ps, _, .cons h hs => .cons h (ptrs_vals hs)

theorem s_callv {d : Option Nat} {x : Opd} {args : List Opd} (hc : chkOp P fx.nt o (.callv d x args) = true) {call : Callee} (hcal : CalleeOK P call) {s' : St} (hs : step call s (.callv d x args) = some s') (h : SimG fx g S s a w)
    (hbody : ∀ f args H r H', call f args H = some (r, H') → bodyOk P f = true) :
    o.wp P a w (fun a' w' => Sim fx s' a' w') Qx := by
  simp only [chkOp, Bool.and_eq_true] at hc
  obtain ⟨hd, hc⟩ := hc
  simp only [dstOk?, Bool.and_eq_true, beq_iff_eq] at hd
  obtain ⟨hd, hdl⟩ := hd
  split at hc
  case h_2 => cases hc
  rename_i y as ats eo
  simp only [Bool.and_eq_true, beq_iff_eq] at hc
  obtain ⟨hy, hargs⟩ := hc
  simp only [step] at hs
  split at hs
  case h_2 => cases hs
  rename_i f fs cs e1
  split at hs
  case h_2 => cases hs
  rename_i v H' hcall
  cases hs
  obtain ⟨ha1, ha2⟩ := evs_rep h.e hargs
  have ry := ev_rep h.e hy
  rw [e1] at ry
  obtain ⟨vf, vc, eu, hf, hcs⟩ := ry
  have hb := hbody _ _ _ _ _ hcall
  have hrun : (execOp a.eval o).run P w = .ok (.enter f (vf ++ as.toList.map a.eval ++ vc).toArray) w := by
    unfold execOp
    have hargs : (vf.toArray ++ as.map a.eval ++ vc.toArray : Array Value) = (vf ++ as.toList.map a.eval ++ vc).toArray := by apply Array.ext'; simp
    simp only [eo, resolve, eu, Deferred.ofValue, Sem.run_bind, Sem.run_pure, Result.andThen_ok, invoke, hargs]
    exact run_call hb
  refine wp_enter hrun (hcal _ _ _ _ _ hcall) h.h (args_plain (((ptrs_vals hf).app ha1).app (ptrs_vals hcs)) ?_) ?_
  · intro v hv
    simp only [List.mem_append, List.mem_map] at hv
    rcases hv with (⟨p, _, rfl⟩ | hv) | ⟨p, _, rfl⟩
    · trivial
    · exact ha2 v hv
    · trivial
  intro v g' w' R h1 h2 h3 h4
  rw [hd]
  exact h.after (fun b hb => by cases hb) h4 h3 (fun t ht => by subst ht; simpa using hdl) h1 h2

theorem s_bsv {d e n : Nat} {ps : List (Nat × Nat × Opd)} (hc : chkOp P fx.nt o (.bsv d e n ps) = true) {call : Callee} {s' : St} (hs : step call s (.bsv d e n ps) = some s') (h : SimG fx g S s a w) :
    o.wp P a w (fun a' w' => Sim fx s' a' w') Qx := by
  simp only [chkOp, Bool.and_eq_true] at hc
  obtain ⟨hd, hc⟩ := hc
  obtain ⟨hd, hlt⟩ := dstOk_spec hd
  split at hc
  case h_2 => cases hc
  rename_i t n' qs eo
  simp only [Bool.and_eq_true, beq_iff_eq, decide_eq_true_eq] at hc
  obtain ⟨⟨⟨⟨⟨rfl, hst⟩, hsz⟩, hmax⟩, hz⟩, hparts⟩ := hc
  simp only [step] at hs
  split at hs
  case h_2 => cases hs
  rename_i cs hcs
  cases hs
  have hte : P.underlying t = some (.slice e) := by
    unfold sliceT at hst
    split at hst
    · rename_i e' he'; rw [he', eq_of_beq hst]
    · cases hst
  split at hz
  case h_2 => cases hz
  rename_i i hi
  split at hz
  case h_2 => cases hz
  rename_i hzz
  have hzr : ∀ w, (zeroValue e).run P w = .ok .nilFunc w := fun w => by simp [zeroValue, typeInfo, hi, hzz]
  let base : Array Value := (Array.range (n' * 1)).map (#[Value.nilFunc][· % #[Value.nilFunc].size]!)
  have hbase : All2 (RepN g) (List.replicate n' C.undef) base.toList := by
    refine All2.of_get ?_ ?_
    · simp [base]
    · intro j x u hx hu
      have hxe : x = .undef := by
        have := List.mem_of_getElem? hx
        simp at this; exact this.2
      subst hxe
      simp only [base, Array.toList_map, List.getElem?_map, Option.map_eq_some_iff] at hu
      obtain ⟨j', _, rfl⟩ := hu
      have : (#[Value.nilFunc][j' % #[Value.nilFunc].size]!) = Value.nilFunc := by simp [Nat.mod_one]
      rw [this]; exact ⟨rfl, trivial⟩
  obtain ⟨arr, e1, e2⟩ := fill_rep h.e qs.toList ps base _ cs hparts hbase hcs
  simp only [Nat.mul_one] at e1
  have hrun : (execOp a.eval o).run P w = .ok (.value (.slice (some ⟨w.heap.size, 0, none⟩) n' n')) (w.alloc (.cells arr e)) := by
    unfold execOp
    by_cases h0 : n' * 1 = 0
    · have hb : ((Array.range 0).map ((#[] : Array Value)[· % (#[] : Array Value).size]!)) = base := by simp [base, h0]
      simp only [eo, Instr.buildSlice, Sem.run_bind, run_underlying hte, Result.andThen_ok, sizeT_run hsz, h0, show ¬ (0 : Nat) > 2 ^ 24 by decide, if_false, if_true, Sem.run_pure, hb, Array.toList_map, Nat.mul_one, e1, newRow, run_newObj]
      rfl
    · simp only [eo, Instr.buildSlice, Sem.run_bind, run_underlying hte, Result.andThen_ok, sizeT_run hsz, show ¬ n' * 1 > 2 ^ 24 by omega, if_false, h0, Sem.run_pure, hzr]
      show ((match Instr.fill _ base _ with | some cells => _ | x => _ : Sem Value).run P w).andThen _ = _
      simp only [Array.toList_map, Nat.mul_one, e1, newRow, Sem.run_bind, run_newObj, Sem.run_pure, Result.andThen_ok]
      rfl
  refine wp_value hrun ?_
  rw [hd]
  have h1 := h.alloc (.cells arr e)
  obtain ⟨g', hle, hβ, h2⟩ := h1.newbox (b := w.heap.size) (heap_alloc_new w _) h.same.size
    (fun o => by cases hm : g.M w.heap.size o with
      | none => rfl
      | some v => exact absurd (h.h.Mlt hm) (Nat.lt_irrefl _))
    (fun i hi => absurd (h.h.βlt hi) (Nat.lt_irrefl _)) (fun i o hi => absurd (h.h.owlt _ _ _ hi) (Nat.lt_irrefl _)) (fun t ht => absurd (h.e.lt _ _ ht) (Nat.lt_irrefl _))
    (xs := cs) (by rw [e2.len, List.take_length]; exact e2)
  exact ⟨g', _, h2.put hlt (x := .c (.view s.H.length 0 n' 1)) ⟨_, n', hβ, rfl, Nat.le_refl _⟩ trivial⟩
end
end Go.Ab
