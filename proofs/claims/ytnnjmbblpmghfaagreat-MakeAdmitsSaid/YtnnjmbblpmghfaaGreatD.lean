/-
  The quiet operations, the rest: structs and arrays that are built, and all quiet operations in one lemma.
  Conditions: none; lemmas.
-/
import Derived.Test.YtnnjmbblpmghfaaGreatC
set_option linter.unusedSimpArgs false
set_option linter.unusedVariables false
namespace Go.Ab
section
variable {P : Program} {fx : Fx} {g : Gh} {S : Nat → Option Nat} {s : St} {a : Act} {w : World}
/-! ### A struct, an array is built -/
theorem cells_one {u : Value} (h : u.oneCell' = true) : u.cells = #[u] := by cases u <;> first | rfl | (simp [Value.oneCell'] at h)
theorem vcells_rep {g : Gh} {v : V} {u : Value} (r : RepV g v u) (hn : noOwn v) {xs : List C} (hx : vcells v = some xs) : All2 (RepN g) xs u.cells.toList := by
  cases v with
  | c x =>
    by_cases hu : x = .undef
    · subst hu; simp [vcells] at hx
    · have r := RepV.toC hu r
      have : xs = [x] := by cases x <;> simp [vcells] at hx <;> first | exact hx.symm | exact absurd rfl hu
      subst this
      rw [cells_one r.one]
      exact .cons ⟨r, by cases x <;> first | trivial | exact hn.elim⟩ .nil
  | agg ys =>
    simp only [vcells] at hx; cases hx
    obtain ⟨us, rfl, h⟩ := r
    exact h
  | tup => simp [vcells] at hx
theorem consts_rep {g : Gh} : ∀ {vs : List Value} {z : List C}, constsOk vs z = true → All2 (RepN g) z vs
  | [], [], _ => .nil
  | v :: vs, c :: z, h => by
    simp only [constsOk, Bool.and_eq_true] at h
    refine .cons ⟨constOk_rep h.1, ?_⟩ (consts_rep h.2)
    cases c <;> first | trivial | (exfalso; have := h.1; unfold constOk at this; split at this <;> first | (rename_i e; cases e; done) | cases this)
  | [], _ :: _, h => by simp [constsOk] at h
  | _ :: _, [], h => by simp [constsOk] at h

theorem fold_put {R : C → Value → Prop} (off : Nat) : ∀ (vs : List Value) (k : Nat) (arr : Array Value) (xs cs cs' : List C), All2 R cs arr.toList → All2 R xs vs → putAt cs (off + k) xs = some cs' →
    All2 R cs' ((vs.zipIdx k).foldl (fun (cs : Array Value) (p : Value × Nat) => cs.setIfInBounds (off + p.2) p.1) arr).toList ∧ (xs ≠ [] → off + k + vs.length ≤ arr.size)
  | [], k, arr, xs, cs, cs', h1, h2, h3 => by
    cases h2
    simp only [putAt] at h3; cases h3
    exact ⟨by simpa using h1, fun h => absurd rfl h⟩
  | v :: vs, k, arr, xs, cs, cs', h1, h2, h3 => by
    cases h2 with
    | cons hx hxs =>
      rename_i x xs
      simp only [putAt] at h3
      split at h3
      · rename_i hlt
        have hl := h1.len
        have ih := fold_put off vs (k + 1) (arr.setIfInBounds (off + k) v) xs (cs.set (off + k) x) cs' (by simpa using h1.set (off + k) x v hx) hxs (by rwa [← Nat.add_assoc])
        refine ⟨by simpa using ih.1, fun _ => ?_⟩
        by_cases he : xs = []
        · subst he; cases hxs; simp at hl ⊢; omega
        · have := ih.2 he; simp at this ⊢; omega
      · cases h3

theorem fill_rep {place : Nat → Option (Nat × Nat)} (he : EInv g S s.env a w) : ∀ (ps : List (Nat × Operand)) (ps' : List (Nat × Nat × Opd)) (arr : Array Value) (cs cs' : List C), partsOk place ps ps' = true → All2 (RepN g) cs arr.toList → putAll s.env cs ps' = some cs' →
    ∃ arr', Instr.fill place arr (ps.map fun p => (p.1, a.eval p.2)) = some arr' ∧ All2 (RepN g) cs' arr'.toList
  | [], [], arr, cs, cs', _, h, hp => by simp only [putAll] at hp; cases hp; exact ⟨arr, rfl, h⟩
  | [], p :: ps', _, _, _, h, _, _ => by simp [partsOk] at h
  | p :: ps, [], _, _, _, h, _, _ => by simp [partsOk] at h
  | (i, x) :: ps, (off, n, y) :: ps', arr, cs, cs', hok, h, hp => by
    simp only [partsOk, Bool.and_eq_true, beq_iff_eq, bne_iff_ne, ne_eq] at hok
    obtain ⟨⟨hpl, hxy⟩, hn0, hok⟩ := hok
    simp only [putAll] at hp
    split at hp
    · rename_i xs hxs
      split at hp
      · rename_i hn
        split at hp
        · rename_i c2 hc2
          have r := vcells_rep (ev_rep he hxy) (noOwn_ev hxy _) hxs
          have hl := r.len
          have hf := fold_put off (a.eval x).cells.toList 0 arr xs cs c2 h r (by simpa using hc2)
          have hsz : (a.eval x).cells.size = n := by rw [← hn, hl]; simp
          have hx0 : xs ≠ [] := by intro e; subst e; exact hn0 hn.symm
          have hle : off + n ≤ arr.size := by have := hf.2 hx0; simp [hsz] at this; omega
          simp only [List.map_cons, Instr.fill, hpl]
          have hcond : ((a.eval x).cells.size ≠ n || decide (off + (a.eval x).cells.size > arr.size)) = false := by
            rw [hsz]; simp; omega
          have hfold : (a.eval x).cells.zipIdx.foldl (fun (cs : Array Value) (p : Value × Nat) => cs.setIfInBounds (off + p.2) p.1) arr = ((a.eval x).cells.toList.zipIdx 0).foldl (fun (cs : Array Value) (p : Value × Nat) => cs.setIfInBounds (off + p.2) p.1) arr := by
            rw [← Array.foldl_toList]; simp
          obtain ⟨arr', e1, e2⟩ := fill_rep he ps ps' _ c2 cs' hok hf.1 hp
          refine ⟨arr', ?_, e2⟩
          rw [← hfold] at e1
          simp only [Bool.or_eq_true, decide_eq_true_eq, Bool.or_eq_false_iff, decide_eq_false_iff_not, ne_eq, Decidable.not_not] at hcond ⊢
          rw [if_neg (by omega)]
          exact e1
        · cases hp
      · cases hp
    · cases hp

theorem q_bld (h : SimG fx g S s a w) {o : Oper} {t : TypeId} {ps : Array (Nat × Operand)} (ho : o.op = .build t ps) {z : List C} {ps' : List (Nat × Nat × Opd)} (hc : chkQ P (.build t ps) (.bld z ps') = true) {v : V}
    (hv : qv s.env s.H (.bld z ps') = some v) : QOk P g a w o v := by
  simp only [chkQ, Bool.and_eq_true] at hc
  obtain ⟨hz, hc⟩ := hc
  simp only [qv] at hv
  split at hv
  · rename_i cs hcs
    cases hv
    unfold zeroT at hz
    cases hi : P.info? t with
    | none => simp [hi] at hz
    | some i =>
      cases hzz : i.zero with
      | none => simp [hi, hzz] at hz
      | some zv =>
        simp only [hi, hzz, Option.any_some] at hz
        have rz : All2 (RepN g) z zv.cells.toList := consts_rep hz
        have hzr : ∀ w, (zeroValue t).run P w = .ok zv w := by intro w; simp [zeroValue, typeInfo, hi, hzz]
        unfold QOk execOp
        simp only [ho]
        split at hc
        · rename_i fields hf
          simp only [Bool.and_eq_true] at hc
          obtain ⟨hall, hparts⟩ := hc
          obtain ⟨arr, e1, e2⟩ := fill_rep h.e ps.toList ps' zv.cells z cs hparts rz hcs
          have hpl : ∀ w, (fields.mapM (m := Sem) fun (f : Field) => do pure (f.offset, ← sizeOf f.type)).run P w = .ok (fields.map fun (f : Field) => (f.offset, P.cellsOf f.type)) w := by
            intro w
            have : ∀ (l : List Field), (l.all fun (f : Field) => (P.info? f.type).isSome) = true → ∀ w, (l.mapM (m := Sem) fun (f : Field) => do pure (f.offset, ← sizeOf f.type)).run P w = .ok (l.map fun (f : Field) => (f.offset, P.cellsOf f.type)) w := by
              intro l
              induction l with
              | nil => intro _ w; simp
              | cons f l ih =>
                intro hl w
                simp only [List.all_cons, Bool.and_eq_true] at hl
                obtain ⟨j, hj⟩ := Option.isSome_iff_exists.1 hl.1
                have hso : ∀ w, (sizeOf f.type).run P w = .ok (P.cellsOf f.type) w := by intro w; simp [sizeOf, typeInfo, hj, Program.cellsOf]
                rw [List.mapM_cons]
                simp only [Sem.run_bind, hso, Result.andThen_ok, ih hl.2, Sem.run_pure, List.map_cons]
            have := this fields.toList hall w
            rw [Array.mapM_eq_mapM_toList]
            simp only [Sem.run_map, this, Result.andThen_ok]
            congr 1
            apply Array.ext'
            simp
          have hpo : placesOf P fields = ((fields.map fun (f : Field) => (f.offset, P.cellsOf f.type))[·]?) := by
            funext j
            unfold placesOf
            cases hj : fields[j]? with
            | none => simp [hj]
            | some f =>
              have : (P.info? f.type).isSome = true := List.all_eq_true.1 hall f (by have := Array.mem_of_getElem? hj; simpa using this)
              obtain ⟨k, hk⟩ := Option.isSome_iff_exists.1 this
              simp [hj, hk, Program.cellsOf]
          rw [hpo] at e1
          refine ⟨.agg arr, ?_, ⟨arr.toList, by simp, e2⟩, trivial⟩
          simp only [Instr.build, Sem.run_bind, hzr, Result.andThen_ok, run_underlying hf, hpl, Array.toList_map, e1, Sem.run_pure]
        · rename_i n elem hf
          split at hc
          · rename_i j hj
            obtain ⟨arr, e1, e2⟩ := fill_rep h.e ps.toList ps' zv.cells z cs hc rz hcs
            have hsz : ∀ w, (sizeOf elem).run P w = .ok j.size w := by intro w; simp [sizeOf, typeInfo, hj]
            refine ⟨.agg arr, ?_, ⟨arr.toList, by simp, e2⟩, trivial⟩
            simp only [Instr.build, Sem.run_bind, hzr, Result.andThen_ok, run_underlying hf, hsz, Array.toList_map, e1, Sem.run_pure]
          · cases hc
        · cases hc
  · cases hv

/-- ALL QUIET OPERATIONS. -/
theorem q_sound (h : SimG fx g S s a w) {o : Oper} {q : Q} (hc : chkQ P o.op q = true) {v : V} (hv : qv s.env s.H q = some v) : QOk P g a w o v := by
  generalize hop : o.op = op at hc
  unfold chkQ at hc
  split at hc <;> (try simp only [Bool.and_eq_true, beq_iff_eq, Bool.not_eq_true', bne_iff_ne] at hc)
  · simp only [qv] at hv; cases hv; exact q_mv h (.inl hop) hc
  · simp only [qv] at hv; cases hv; exact q_mv h (.inr hop) hc
  · exact q_pick h hop hc.1.1 hc.1.2 hc.2 hv
  · exact q_bld h hop (by simp only [chkQ, Bool.and_eq_true]; exact hc) hv
  · exact q_ld h hop hc.2 hc.1 hv
  · exact q_lda h hop hc.2 hc.1.1 hc.1.2 hv
  · exact q_nck h hop hc hv
  · -- bin
    obtain ⟨⟨rfl, hx⟩, hy⟩ := hc
    simp only [qv] at hv
    split at hv
    · rename_i k p k' q e1 e2
      split at hv
      · rename_i r hr
        cases hv
        exact q_bin h.e hop hx hy e1 e2 hr
      · cases hv
    · cases hv
  · -- eqb
    obtain ⟨⟨⟨rfl, hx⟩, hy⟩, ht⟩ := hc
    split at ht
    · rename_i ht'; exact q_eqb h hop ht' hx hy hv
    · cases ht
  · -- eqs
    obtain ⟨⟨rfl, hx⟩, hy⟩ := hc
    exact q_eqs h hop hx hy hv
  · -- eqa
    obtain ⟨⟨⟨⟨⟨rfl, hx⟩, hy⟩, hs⟩, hg⟩, ht⟩ := hc
    split at ht
    · rename_i fs hfs
      simp only [Bool.and_eq_true, beq_iff_eq] at ht
      exact q_eqa h hop hfs hs hg ht.1 hx hy ht.2 hv
    · cases ht
  · -- eqn
    obtain ⟨⟨rfl, hx⟩, ht⟩ := hc
    split at ht
    · rename_i e hte; exact q_eqnS h hop hte hx hv
    · cases ht
  · obtain ⟨⟨rfl, hx⟩, ht⟩ := hc
    split at ht
    · rename_i e hte; exact q_eqnP h hop hte hx hv
    · cases ht
  · exact q_neg h hop hc hv
  · exact q_not h hop hc hv
  · -- cvi
    obtain ⟨⟨hx, hsrc⟩, ht⟩ := hc
    split at ht
    · rename_i k' hk
      have ht := eq_of_beq ht
      subst ht
      exact q_cvi h hop hsrc hk hx hv
    · cases ht
  · obtain ⟨⟨rfl, h1⟩, h2⟩ := hc
    exact q_mkf h hop h1 h2 hv
  · -- fad
    obtain ⟨hx, ht⟩ := hc
    split at ht
    · rename_i fields hf
      split at ht
      · rename_i f hj
        simp only [Bool.and_eq_true, beq_iff_eq] at ht
        cases hi : P.info? f.type with
        | none => simp [hi] at ht
        | some i => simp only [hi, Option.any_some, bne_iff_ne, ne_eq] at ht; exact q_fad h hop hx hf hj ht.1 hi ht.2 hv
      · cases ht
    · cases ht
  · -- ias
    obtain ⟨⟨hx, hj⟩, ht⟩ := hc
    split at ht
    · rename_i e hte; exact q_ias h hop hx hj hte ht hv
    · cases ht
  · obtain ⟨⟨hx, hj⟩, ht⟩ := hc
    split at ht
    · rename_i n' e hte
      simp only [Bool.and_eq_true, beq_iff_eq] at ht
      obtain ⟨rfl, ht⟩ := ht
      exact q_iaa h hop hx hj hte ht hv
    · cases ht
  · obtain ⟨⟨hx, hj⟩, ht⟩ := hc
    split at ht
    · rename_i n' e hte
      simp only [Bool.and_eq_true, beq_iff_eq] at ht
      obtain ⟨⟨rfl, ht⟩, hp⟩ := ht
      exact q_ix h hop hx hj hte ht hp hv
    · cases ht
  · obtain ⟨⟨hx, hj⟩, ht⟩ := hc
    split at ht
    · rename_i n' e hte
      simp only [Bool.and_eq_true, beq_iff_eq] at ht
      obtain ⟨⟨rfl, ht⟩, hp⟩ := ht
      exact q_ixa h hop hx hj hte ht hp hv
    · cases ht
  · -- fld
    obtain ⟨hx, ht⟩ := hc
    split at ht
    · rename_i fields hf
      split at ht
      · rename_i f hj
        simp only [Bool.and_eq_true, beq_iff_eq] at ht
        exact q_fld h hop hx hf hj ht.1 ht.2 hv
      · cases ht
    · cases ht
  · -- sls
    obtain ⟨⟨⟨hx, h1⟩, h2⟩, ht⟩ := hc
    split at ht
    · rename_i e hte; exact q_sls h hop hx h1 h2 hte ht hv
    · cases ht
  · obtain ⟨⟨⟨hx, h1⟩, h2⟩, ht⟩ := hc
    split at ht
    · rename_i n' e hte
      simp only [Bool.and_eq_true, beq_iff_eq] at ht
      obtain ⟨rfl, ht⟩ := ht
      exact q_sla h hop hx h1 h2 hte ht hv
    · cases ht
  · obtain ⟨hx, rfl⟩ := hc
    exact q_ext h hop hx hv
  · -- len
    rename_i args ats y
    split at hc
    · rename_i x t e1 e2
      simp only [Bool.and_eq_true] at hc
      obtain ⟨hx, ht⟩ := hc
      split at ht
      · rename_i e hte
        exact q_len h hop (Array.toList_inj.1 (by simpa using e1)) (Array.toList_inj.1 (by simpa using e2)) hte hx hv
      · cases ht
    · cases hc
  · -- mm
    obtain ⟨hb, ht⟩ := hc
    split at ht
    · rename_i x u e1
      simp only [Bool.and_eq_true] at ht
      subst hb
      exact q_mm h hop (Array.toList_inj.1 (by simpa using e1)) ht.1 ht.2 hv
    · cases ht
  · cases hc
end
end Go.Ab
