/-
  What functions of the program come to.
  Conditions: none.
-/
import Derived.Test.YtnnjmbblpmghfaaGreatSg
import Derived.Test.YtnnjmbblpmghfaaGreatPc
set_option linter.unusedSimpArgs false
set_option linter.unusedVariables false
namespace Go.Ab
section
variable {ext : Callee}
theorem rto_lt (d : Int) {n : Int} (h : 1 ≤ n) : 0 ≤ rto d n ∧ rto d n < n := by
  have hr : 0 ≤ rnd d ∧ rnd d < 18446744073709551616 := by unfold rnd; rw [u64_def]; omega
  have hs : ishr .u64 (rnd d) 33 = rnd d / 8589934592 := ishr_nat hr.1 (k := 33) (by omega)
  unfold rto
  rw [if_neg (by omega), hs, w64_fix (by omega) (by omega), Int.tmod_eq_emod_of_nonneg (by omega)]
  exact ⟨Int.emod_nonneg _ (by omega), Int.emod_lt_of_pos _ (by omega)⟩
theorem rto4 (d : Int) : rto d 4 = 0 ∨ rto d 4 = 1 ∨ rto d 4 = 2 ∨ rto d 4 = 3 := by
  have := rto_lt d (n := 4) (by omega); omega
theorem rto2 (d : Int) : rto d 2 = 0 ∨ rto d 2 = 1 := by
  have := rto_lt d (n := 2) (by omega); omega
section
variable (y : Tick) (x : Int)
theorem TKl_0 : ((Tick.enc y).map C.d).set 5 (.d (.b true)) = (Tick.enc { y with lost := fun w => if w = 0 then true else y.lost w }).map C.d := rfl
theorem TKl_1 : ((Tick.enc y).map C.d).set 6 (.d (.b true)) = (Tick.enc { y with lost := fun w => if w = 1 then true else y.lost w }).map C.d := rfl
theorem TKl_2 : ((Tick.enc y).map C.d).set 7 (.d (.b true)) = (Tick.enc { y with lost := fun w => if w = 2 then true else y.lost w }).map C.d := rfl
theorem TKl_3 : ((Tick.enc y).map C.d).set 8 (.d (.b true)) = (Tick.enc { y with lost := fun w => if w = 3 then true else y.lost w }).map C.d := rfl
end
def ftFar (d : Int) (m : Maker) : Int := w64 (m.c.circHi * w64 (1 + rto (rnd d) 300))
def ftY (d : Int) (m : Maker) (y : Tick) : Tick :=
  if rto d 24 = 1 then { y with slip := fun w => if w = (rto (rnd (rnd d)) 2).toNat then ftFar d m else y.slip w }
  else if rto d 24 = 2 then { y with slip := fun w => if w = (rto (rnd (rnd d)) 2).toNat then w64 (0 - ftFar d m) else y.slip w }
  else { y with rad := w64 (w64 (2 * rto (rnd (rnd d)) (w64 (m.c.maxSpeed + 1))) - m.c.maxSpeed) }
def faultV (d : Int) (m : Maker) (y : Tick) : Int × Maker × Tick :=
  if 0 < m.calm ∨ 3 < rto d 24 then (rnd (rnd d), { m with calm := if 0 > w64 (m.calm - 1) then 0 else w64 (m.calm - 1) }, y)
  else if rto d 24 = 0 then (rnd (rnd (rnd d)), { m with calm := 2 }, { y with lost := fun w => if w = (rto (rnd (rnd d)) 4).toNat then true else y.lost w })
  else (rnd (rnd (rnd d)), m, if mkShows m (ftY d m y) = true then ftY d m y else y)
section
variable {H : Heap} {i j : Nat}
set_option maxHeartbeats 16000000 in
set_option maxRecDepth 20000 in
theorem c100 (hT : Two H i j) (d : Int) (m : Maker) (y : Tick) (hj : y.junk = []) : callL tab ext 100 [.c (.ptr j 0), .agg ((Tick.enc y).map .d)] (mset H i j d (MK (.ptr i 0) m)) = some (.agg ((Tick.enc (faultV d m y).2.2).map .d), mset H i j (faultV d m y).1 (MK (.ptr i 0) (faultV d m y).2.1)) := by
  have e1 := fun F d cs => mset_j (hT.hp F) (d := d) (cs := cs)
  have e2 := fun F d cs => mset_i (hT.hp F) (d := d) (cs := cs)
  have e3 := fun F d cs cs' => mset_setj (H := hp H F) (i := i) (j := j) (d := d) (cs := cs) (cs' := cs')
  have e4 := fun F d d' cs => mset_seti (hT.hp F) (d := d) (d' := d') (cs := cs)
  have e5 := fun F d cs => mset_hp hT (d := d) (cs := cs) (F := F)
  have e6 := fun F d cs k => mset_get hT (d := d) (cs := cs) (F := F) (k := k)
  have e7 := fun F d cs k b => mset_put hT (d := d) (cs := cs) (F := F) (k := k) (b := b)
  have e8 := fun F d cs b => mset_add hT (d := d) (cs := cs) (F := F) (b := b)
  have e9 := fun F d cs => mset_plen (H := H) (i := i) (j := j) (d := d) (cs := cs) (F := F)
  have e10 := fun F d cs => mset_take0 hT (d := d) (cs := cs) (F := F)
  have e11 := fun F d cs k => mset_take hT (d := d) (cs := cs) (F := F) (k := k)
  have e12 := fun d cs => mset_len (H := H) (i := i) (j := j) (d := d) (cs := cs)
  have g48 := fun F d cs n => c48 (ext := ext) (H := mset (hp H F) i j d cs) (i := i) d n (mset_i (hT.hp F))
  have g99 := fun F d cs n => c99 (ext := ext) (H := mset (hp H F) i j d cs) (i := i) d n (mset_i (hT.hp F))
  have g1 := fun F d y => c144 (ext := ext) (H := mset (hp H F) i j d (MK (.ptr i 0) m)) (m := m) y (mset_j (hT.hp F))
  rw [cl_100 rfl, B100]
  by_cases h1 : 0 < m.calm
  · simp (maxSteps := 4000000) -implicitDefEqProofs only [↓r100_3, ↓r100_4,  go_sem, ↓reduceIte, Nat.reduceMul, Int.reduceLT, Int.reduceNeg, Int.reduceEq, Int.reduceLE, Int.reduceAdd, Int.reduceSub, Nat.reduceEqDiff, Nat.reduceLeDiff, Nat.reduceLT, Nat.reduceAdd, reduceCtorEq, Tick.enc, Tick.encC_all, Tick.enc_0, Tick.enc_1, Tick.enc_10, Tick.enc_2, Tick.enc_3, Tick.enc_4, Tick.enc_5, Tick.enc_6, Tick.enc_7, Tick.enc_8, Tick.enc_9, Tick.enc_all, Tick.enc_len, Tick.subC_1_2, Tick.subC_5_4, Tick.sub_1_2, Tick.sub_5_4, Config.encC_all, Config.enc_0, Config.enc_1, Config.enc_10, Config.enc_11, Config.enc_12, Config.enc_13, Config.enc_2, Config.enc_3, Config.enc_4, Config.enc_5, Config.enc_6, Config.enc_7, Config.enc_8, Config.enc_9, Config.enc_all, Config.enc_len, List.getElem?_map, Option.map_some, List.length_map, map_clC, map_nmC, ei64_0, eu8_0, eL_0, e1, e2, e3, e4, e5, e6, e7, e8, e9, e10, e11, e12, g48, g99, h1]
    simp only [faultV, h1, true_or, if_true]
  · by_cases h2 : 3 < rto d 24
    · simp (maxSteps := 4000000) -implicitDefEqProofs only [↓r100_3, ↓r100_4,  go_sem, ↓reduceIte, Nat.reduceMul, Int.reduceLT, Int.reduceNeg, Int.reduceEq, Int.reduceLE, Int.reduceAdd, Int.reduceSub, Nat.reduceEqDiff, Nat.reduceLeDiff, Nat.reduceLT, Nat.reduceAdd, reduceCtorEq, Tick.enc, Tick.encC_all, Tick.enc_0, Tick.enc_1, Tick.enc_10, Tick.enc_2, Tick.enc_3, Tick.enc_4, Tick.enc_5, Tick.enc_6, Tick.enc_7, Tick.enc_8, Tick.enc_9, Tick.enc_all, Tick.enc_len, Tick.subC_1_2, Tick.subC_5_4, Tick.sub_1_2, Tick.sub_5_4, Config.encC_all, Config.enc_0, Config.enc_1, Config.enc_10, Config.enc_11, Config.enc_12, Config.enc_13, Config.enc_2, Config.enc_3, Config.enc_4, Config.enc_5, Config.enc_6, Config.enc_7, Config.enc_8, Config.enc_9, Config.enc_all, Config.enc_len, List.getElem?_map, Option.map_some, List.length_map, map_clC, map_nmC, ei64_0, eu8_0, eL_0, e1, e2, e3, e4, e5, e6, e7, e8, e9, e10, e11, e12, g48, g99, h1, h2]
      simp only [faultV, h1, h2, or_true, if_true]
    · by_cases h3 : rto d 24 = 0
      · rcases rto4 (rnd (rnd d)) with q | q | q | q
        · simp (maxSteps := 4000000) -implicitDefEqProofs only [↓r100_3, ↓r100_4,  go_sem, ↓reduceIte, Nat.reduceMul, Int.reduceLT, Int.reduceNeg, Int.reduceEq, Int.reduceLE, Int.reduceAdd, Int.reduceSub, Nat.reduceEqDiff, Nat.reduceLeDiff, Nat.reduceLT, Nat.reduceAdd, reduceCtorEq, Tick.enc, Tick.encC_all, Tick.enc_0, Tick.enc_1, Tick.enc_10, Tick.enc_2, Tick.enc_3, Tick.enc_4, Tick.enc_5, Tick.enc_6, Tick.enc_7, Tick.enc_8, Tick.enc_9, Tick.enc_all, Tick.enc_len, Tick.subC_1_2, Tick.subC_5_4, Tick.sub_1_2, Tick.sub_5_4, Config.encC_all, Config.enc_0, Config.enc_1, Config.enc_10, Config.enc_11, Config.enc_12, Config.enc_13, Config.enc_2, Config.enc_3, Config.enc_4, Config.enc_5, Config.enc_6, Config.enc_7, Config.enc_8, Config.enc_9, Config.enc_all, Config.enc_len, List.getElem?_map, Option.map_some, List.length_map, map_clC, map_nmC, ei64_0, eu8_0, eL_0, e1, e2, e3, e4, e5, e6, e7, e8, e9, e10, e11, e12, g48, g99, h1, h2, h3, q, TKl_0]
          simp only [faultV, h1, h2, h3, q, or_self, if_true, if_false]
          rfl
        · simp (maxSteps := 4000000) -implicitDefEqProofs only [↓r100_3, ↓r100_4,  go_sem, ↓reduceIte, Nat.reduceMul, Int.reduceLT, Int.reduceNeg, Int.reduceEq, Int.reduceLE, Int.reduceAdd, Int.reduceSub, Nat.reduceEqDiff, Nat.reduceLeDiff, Nat.reduceLT, Nat.reduceAdd, reduceCtorEq, Tick.enc, Tick.encC_all, Tick.enc_0, Tick.enc_1, Tick.enc_10, Tick.enc_2, Tick.enc_3, Tick.enc_4, Tick.enc_5, Tick.enc_6, Tick.enc_7, Tick.enc_8, Tick.enc_9, Tick.enc_all, Tick.enc_len, Tick.subC_1_2, Tick.subC_5_4, Tick.sub_1_2, Tick.sub_5_4, Config.encC_all, Config.enc_0, Config.enc_1, Config.enc_10, Config.enc_11, Config.enc_12, Config.enc_13, Config.enc_2, Config.enc_3, Config.enc_4, Config.enc_5, Config.enc_6, Config.enc_7, Config.enc_8, Config.enc_9, Config.enc_all, Config.enc_len, List.getElem?_map, Option.map_some, List.length_map, map_clC, map_nmC, ei64_0, eu8_0, eL_0, e1, e2, e3, e4, e5, e6, e7, e8, e9, e10, e11, e12, g48, g99, h1, h2, h3, q, TKl_1]
          simp only [faultV, h1, h2, h3, q, or_self, if_true, if_false]
          rfl
        · simp (maxSteps := 4000000) -implicitDefEqProofs only [↓r100_3, ↓r100_4,  go_sem, ↓reduceIte, Nat.reduceMul, Int.reduceLT, Int.reduceNeg, Int.reduceEq, Int.reduceLE, Int.reduceAdd, Int.reduceSub, Nat.reduceEqDiff, Nat.reduceLeDiff, Nat.reduceLT, Nat.reduceAdd, reduceCtorEq, Tick.enc, Tick.encC_all, Tick.enc_0, Tick.enc_1, Tick.enc_10, Tick.enc_2, Tick.enc_3, Tick.enc_4, Tick.enc_5, Tick.enc_6, Tick.enc_7, Tick.enc_8, Tick.enc_9, Tick.enc_all, Tick.enc_len, Tick.subC_1_2, Tick.subC_5_4, Tick.sub_1_2, Tick.sub_5_4, Config.encC_all, Config.enc_0, Config.enc_1, Config.enc_10, Config.enc_11, Config.enc_12, Config.enc_13, Config.enc_2, Config.enc_3, Config.enc_4, Config.enc_5, Config.enc_6, Config.enc_7, Config.enc_8, Config.enc_9, Config.enc_all, Config.enc_len, List.getElem?_map, Option.map_some, List.length_map, map_clC, map_nmC, ei64_0, eu8_0, eL_0, e1, e2, e3, e4, e5, e6, e7, e8, e9, e10, e11, e12, g48, g99, h1, h2, h3, q, TKl_2]
          simp only [faultV, h1, h2, h3, q, or_self, if_true, if_false]
          rfl
        · simp (maxSteps := 4000000) -implicitDefEqProofs only [↓r100_3, ↓r100_4,  go_sem, ↓reduceIte, Nat.reduceMul, Int.reduceLT, Int.reduceNeg, Int.reduceEq, Int.reduceLE, Int.reduceAdd, Int.reduceSub, Nat.reduceEqDiff, Nat.reduceLeDiff, Nat.reduceLT, Nat.reduceAdd, reduceCtorEq, Tick.enc, Tick.encC_all, Tick.enc_0, Tick.enc_1, Tick.enc_10, Tick.enc_2, Tick.enc_3, Tick.enc_4, Tick.enc_5, Tick.enc_6, Tick.enc_7, Tick.enc_8, Tick.enc_9, Tick.enc_all, Tick.enc_len, Tick.subC_1_2, Tick.subC_5_4, Tick.sub_1_2, Tick.sub_5_4, Config.encC_all, Config.enc_0, Config.enc_1, Config.enc_10, Config.enc_11, Config.enc_12, Config.enc_13, Config.enc_2, Config.enc_3, Config.enc_4, Config.enc_5, Config.enc_6, Config.enc_7, Config.enc_8, Config.enc_9, Config.enc_all, Config.enc_len, List.getElem?_map, Option.map_some, List.length_map, map_clC, map_nmC, ei64_0, eu8_0, eL_0, e1, e2, e3, e4, e5, e6, e7, e8, e9, e10, e11, e12, g48, g99, h1, h2, h3, q, TKl_3]
          simp only [faultV, h1, h2, h3, q, or_self, if_true, if_false]
          rfl
      · by_cases h4 : rto d 24 = 1
        · rcases rto2 (rnd (rnd d)) with q | q
          · have hy : ftY d m y = { y with slip := fun w => if w = 0 then w64 (m.c.circHi * w64 (1 + rto (rnd d) 300)) else y.slip w } := by
              unfold ftY ftFar; rw [if_pos h4, q]; rfl
            have g2 : ∀ F dd, callL tab ext 144 [.c (.ptr j 0), .agg [J y.v, J (w64 (m.c.circHi * w64 (1 + rto (rnd d) 300))), J (y.slip 1), J y.rad, J y.acc, .d (.b (y.lost 0)), .d (.b (y.lost 1)), .d (.b (y.lost 2)), .d (.b (y.lost 3)), .d (.l 1 (y.junk.map (eL 1 eu8))), .d (.b y.command)]] (mset (hp H F) i j dd (MK (.ptr i 0) m)) = some (.B (mkShows m { y with slip := fun w => if w = 0 then w64 (m.c.circHi * w64 (1 + rto (rnd d) 300)) else y.slip w }), mset (hp H F) i j dd (MK (.ptr i 0) m)) := fun F dd => g1 F dd { y with slip := fun w => if w = 0 then w64 (m.c.circHi * w64 (1 + rto (rnd d) 300)) else y.slip w }
            cases hs : mkShows m { y with slip := fun w => if w = 0 then w64 (m.c.circHi * w64 (1 + rto (rnd d) 300)) else y.slip w } with
            | true =>
              simp (maxSteps := 4000000) -implicitDefEqProofs only [↓r100_3, ↓r100_4,  go_sem, ↓reduceIte, Nat.reduceMul, Int.reduceLT, Int.reduceNeg, Int.reduceEq, Int.reduceLE, Int.reduceAdd, Int.reduceSub, Nat.reduceEqDiff, Nat.reduceLeDiff, Nat.reduceLT, Nat.reduceAdd, reduceCtorEq, Tick.enc, Tick.encC_all, Tick.enc_0, Tick.enc_1, Tick.enc_10, Tick.enc_2, Tick.enc_3, Tick.enc_4, Tick.enc_5, Tick.enc_6, Tick.enc_7, Tick.enc_8, Tick.enc_9, Tick.enc_all, Tick.enc_len, Tick.subC_1_2, Tick.subC_5_4, Tick.sub_1_2, Tick.sub_5_4, Config.encC_all, Config.enc_0, Config.enc_1, Config.enc_10, Config.enc_11, Config.enc_12, Config.enc_13, Config.enc_2, Config.enc_3, Config.enc_4, Config.enc_5, Config.enc_6, Config.enc_7, Config.enc_8, Config.enc_9, Config.enc_all, Config.enc_len, List.getElem?_map, Option.map_some, List.length_map, map_clC, map_nmC, ei64_0, eu8_0, eL_0, e1, e2, e3, e4, e5, e6, e7, e8, e9, e10, e11, e12, g48, g99, h1, h2, h3, h4, q, g2, hs]
              simp only [faultV, h1, h2, h3, or_self, if_false, hy, hs, if_true]
              all_goals rfl
            | false =>
              simp (maxSteps := 4000000) -implicitDefEqProofs only [↓r100_3, ↓r100_4,  go_sem, ↓reduceIte, Nat.reduceMul, Int.reduceLT, Int.reduceNeg, Int.reduceEq, Int.reduceLE, Int.reduceAdd, Int.reduceSub, Nat.reduceEqDiff, Nat.reduceLeDiff, Nat.reduceLT, Nat.reduceAdd, reduceCtorEq, Tick.enc, Tick.encC_all, Tick.enc_0, Tick.enc_1, Tick.enc_10, Tick.enc_2, Tick.enc_3, Tick.enc_4, Tick.enc_5, Tick.enc_6, Tick.enc_7, Tick.enc_8, Tick.enc_9, Tick.enc_all, Tick.enc_len, Tick.subC_1_2, Tick.subC_5_4, Tick.sub_1_2, Tick.sub_5_4, Config.encC_all, Config.enc_0, Config.enc_1, Config.enc_10, Config.enc_11, Config.enc_12, Config.enc_13, Config.enc_2, Config.enc_3, Config.enc_4, Config.enc_5, Config.enc_6, Config.enc_7, Config.enc_8, Config.enc_9, Config.enc_all, Config.enc_len, List.getElem?_map, Option.map_some, List.length_map, map_clC, map_nmC, ei64_0, eu8_0, eL_0, e1, e2, e3, e4, e5, e6, e7, e8, e9, e10, e11, e12, g48, g99, h1, h2, h3, h4, q, g2, hs]
              simp only [faultV, h1, h2, h3, or_self, if_false, hy, hs, Bool.false_eq_true]
          · have hy : ftY d m y = { y with slip := fun w => if w = 1 then w64 (m.c.circHi * w64 (1 + rto (rnd d) 300)) else y.slip w } := by
              unfold ftY ftFar; rw [if_pos h4, q]; rfl
            have g2 : ∀ F dd, callL tab ext 144 [.c (.ptr j 0), .agg [J y.v, J (y.slip 0), J (w64 (m.c.circHi * w64 (1 + rto (rnd d) 300))), J y.rad, J y.acc, .d (.b (y.lost 0)), .d (.b (y.lost 1)), .d (.b (y.lost 2)), .d (.b (y.lost 3)), .d (.l 1 (y.junk.map (eL 1 eu8))), .d (.b y.command)]] (mset (hp H F) i j dd (MK (.ptr i 0) m)) = some (.B (mkShows m { y with slip := fun w => if w = 1 then w64 (m.c.circHi * w64 (1 + rto (rnd d) 300)) else y.slip w }), mset (hp H F) i j dd (MK (.ptr i 0) m)) := fun F dd => g1 F dd { y with slip := fun w => if w = 1 then w64 (m.c.circHi * w64 (1 + rto (rnd d) 300)) else y.slip w }
            cases hs : mkShows m { y with slip := fun w => if w = 1 then w64 (m.c.circHi * w64 (1 + rto (rnd d) 300)) else y.slip w } with
            | true =>
              simp (maxSteps := 4000000) -implicitDefEqProofs only [↓r100_3, ↓r100_4,  go_sem, ↓reduceIte, Nat.reduceMul, Int.reduceLT, Int.reduceNeg, Int.reduceEq, Int.reduceLE, Int.reduceAdd, Int.reduceSub, Nat.reduceEqDiff, Nat.reduceLeDiff, Nat.reduceLT, Nat.reduceAdd, reduceCtorEq, Tick.enc, Tick.encC_all, Tick.enc_0, Tick.enc_1, Tick.enc_10, Tick.enc_2, Tick.enc_3, Tick.enc_4, Tick.enc_5, Tick.enc_6, Tick.enc_7, Tick.enc_8, Tick.enc_9, Tick.enc_all, Tick.enc_len, Tick.subC_1_2, Tick.subC_5_4, Tick.sub_1_2, Tick.sub_5_4, Config.encC_all, Config.enc_0, Config.enc_1, Config.enc_10, Config.enc_11, Config.enc_12, Config.enc_13, Config.enc_2, Config.enc_3, Config.enc_4, Config.enc_5, Config.enc_6, Config.enc_7, Config.enc_8, Config.enc_9, Config.enc_all, Config.enc_len, List.getElem?_map, Option.map_some, List.length_map, map_clC, map_nmC, ei64_0, eu8_0, eL_0, e1, e2, e3, e4, e5, e6, e7, e8, e9, e10, e11, e12, g48, g99, h1, h2, h3, h4, q, g2, hs]
              simp only [faultV, h1, h2, h3, or_self, if_false, hy, hs, if_true]
              all_goals rfl
            | false =>
              simp (maxSteps := 4000000) -implicitDefEqProofs only [↓r100_3, ↓r100_4,  go_sem, ↓reduceIte, Nat.reduceMul, Int.reduceLT, Int.reduceNeg, Int.reduceEq, Int.reduceLE, Int.reduceAdd, Int.reduceSub, Nat.reduceEqDiff, Nat.reduceLeDiff, Nat.reduceLT, Nat.reduceAdd, reduceCtorEq, Tick.enc, Tick.encC_all, Tick.enc_0, Tick.enc_1, Tick.enc_10, Tick.enc_2, Tick.enc_3, Tick.enc_4, Tick.enc_5, Tick.enc_6, Tick.enc_7, Tick.enc_8, Tick.enc_9, Tick.enc_all, Tick.enc_len, Tick.subC_1_2, Tick.subC_5_4, Tick.sub_1_2, Tick.sub_5_4, Config.encC_all, Config.enc_0, Config.enc_1, Config.enc_10, Config.enc_11, Config.enc_12, Config.enc_13, Config.enc_2, Config.enc_3, Config.enc_4, Config.enc_5, Config.enc_6, Config.enc_7, Config.enc_8, Config.enc_9, Config.enc_all, Config.enc_len, List.getElem?_map, Option.map_some, List.length_map, map_clC, map_nmC, ei64_0, eu8_0, eL_0, e1, e2, e3, e4, e5, e6, e7, e8, e9, e10, e11, e12, g48, g99, h1, h2, h3, h4, q, g2, hs]
              simp only [faultV, h1, h2, h3, or_self, if_false, hy, hs, Bool.false_eq_true]
        · by_cases h5 : rto d 24 = 2
          · rcases rto2 (rnd (rnd d)) with q | q
            · have hy : ftY d m y = { y with slip := fun w => if w = 0 then w64 (0 - w64 (m.c.circHi * w64 (1 + rto (rnd d) 300))) else y.slip w } := by
                unfold ftY ftFar; rw [if_neg h4, if_pos h5, q]; rfl
              have g2 : ∀ F dd, callL tab ext 144 [.c (.ptr j 0), .agg [J y.v, J (w64 (0 - w64 (m.c.circHi * w64 (1 + rto (rnd d) 300)))), J (y.slip 1), J y.rad, J y.acc, .d (.b (y.lost 0)), .d (.b (y.lost 1)), .d (.b (y.lost 2)), .d (.b (y.lost 3)), .d (.l 1 (y.junk.map (eL 1 eu8))), .d (.b y.command)]] (mset (hp H F) i j dd (MK (.ptr i 0) m)) = some (.B (mkShows m { y with slip := fun w => if w = 0 then w64 (0 - w64 (m.c.circHi * w64 (1 + rto (rnd d) 300))) else y.slip w }), mset (hp H F) i j dd (MK (.ptr i 0) m)) := fun F dd => g1 F dd { y with slip := fun w => if w = 0 then w64 (0 - w64 (m.c.circHi * w64 (1 + rto (rnd d) 300))) else y.slip w }
              cases hs : mkShows m { y with slip := fun w => if w = 0 then w64 (0 - w64 (m.c.circHi * w64 (1 + rto (rnd d) 300))) else y.slip w } with
              | true =>
                simp (maxSteps := 4000000) -implicitDefEqProofs only [↓r100_3, ↓r100_4,  go_sem, ↓reduceIte, Nat.reduceMul, Int.reduceLT, Int.reduceNeg, Int.reduceEq, Int.reduceLE, Int.reduceAdd, Int.reduceSub, Nat.reduceEqDiff, Nat.reduceLeDiff, Nat.reduceLT, Nat.reduceAdd, reduceCtorEq, Tick.enc, Tick.encC_all, Tick.enc_0, Tick.enc_1, Tick.enc_10, Tick.enc_2, Tick.enc_3, Tick.enc_4, Tick.enc_5, Tick.enc_6, Tick.enc_7, Tick.enc_8, Tick.enc_9, Tick.enc_all, Tick.enc_len, Tick.subC_1_2, Tick.subC_5_4, Tick.sub_1_2, Tick.sub_5_4, Config.encC_all, Config.enc_0, Config.enc_1, Config.enc_10, Config.enc_11, Config.enc_12, Config.enc_13, Config.enc_2, Config.enc_3, Config.enc_4, Config.enc_5, Config.enc_6, Config.enc_7, Config.enc_8, Config.enc_9, Config.enc_all, Config.enc_len, List.getElem?_map, Option.map_some, List.length_map, map_clC, map_nmC, ei64_0, eu8_0, eL_0, e1, e2, e3, e4, e5, e6, e7, e8, e9, e10, e11, e12, g48, g99, h1, h2, h3, h4, h5, q, g2, hs]
                simp only [faultV, h1, h2, h3, or_self, if_false, hy, hs, if_true]
                all_goals rfl
              | false =>
                simp (maxSteps := 4000000) -implicitDefEqProofs only [↓r100_3, ↓r100_4,  go_sem, ↓reduceIte, Nat.reduceMul, Int.reduceLT, Int.reduceNeg, Int.reduceEq, Int.reduceLE, Int.reduceAdd, Int.reduceSub, Nat.reduceEqDiff, Nat.reduceLeDiff, Nat.reduceLT, Nat.reduceAdd, reduceCtorEq, Tick.enc, Tick.encC_all, Tick.enc_0, Tick.enc_1, Tick.enc_10, Tick.enc_2, Tick.enc_3, Tick.enc_4, Tick.enc_5, Tick.enc_6, Tick.enc_7, Tick.enc_8, Tick.enc_9, Tick.enc_all, Tick.enc_len, Tick.subC_1_2, Tick.subC_5_4, Tick.sub_1_2, Tick.sub_5_4, Config.encC_all, Config.enc_0, Config.enc_1, Config.enc_10, Config.enc_11, Config.enc_12, Config.enc_13, Config.enc_2, Config.enc_3, Config.enc_4, Config.enc_5, Config.enc_6, Config.enc_7, Config.enc_8, Config.enc_9, Config.enc_all, Config.enc_len, List.getElem?_map, Option.map_some, List.length_map, map_clC, map_nmC, ei64_0, eu8_0, eL_0, e1, e2, e3, e4, e5, e6, e7, e8, e9, e10, e11, e12, g48, g99, h1, h2, h3, h4, h5, q, g2, hs]
                simp only [faultV, h1, h2, h3, or_self, if_false, hy, hs, Bool.false_eq_true]
            · have hy : ftY d m y = { y with slip := fun w => if w = 1 then w64 (0 - w64 (m.c.circHi * w64 (1 + rto (rnd d) 300))) else y.slip w } := by
                unfold ftY ftFar; rw [if_neg h4, if_pos h5, q]; rfl
              have g2 : ∀ F dd, callL tab ext 144 [.c (.ptr j 0), .agg [J y.v, J (y.slip 0), J (w64 (0 - w64 (m.c.circHi * w64 (1 + rto (rnd d) 300)))), J y.rad, J y.acc, .d (.b (y.lost 0)), .d (.b (y.lost 1)), .d (.b (y.lost 2)), .d (.b (y.lost 3)), .d (.l 1 (y.junk.map (eL 1 eu8))), .d (.b y.command)]] (mset (hp H F) i j dd (MK (.ptr i 0) m)) = some (.B (mkShows m { y with slip := fun w => if w = 1 then w64 (0 - w64 (m.c.circHi * w64 (1 + rto (rnd d) 300))) else y.slip w }), mset (hp H F) i j dd (MK (.ptr i 0) m)) := fun F dd => g1 F dd { y with slip := fun w => if w = 1 then w64 (0 - w64 (m.c.circHi * w64 (1 + rto (rnd d) 300))) else y.slip w }
              cases hs : mkShows m { y with slip := fun w => if w = 1 then w64 (0 - w64 (m.c.circHi * w64 (1 + rto (rnd d) 300))) else y.slip w } with
              | true =>
                simp (maxSteps := 4000000) -implicitDefEqProofs only [↓r100_3, ↓r100_4,  go_sem, ↓reduceIte, Nat.reduceMul, Int.reduceLT, Int.reduceNeg, Int.reduceEq, Int.reduceLE, Int.reduceAdd, Int.reduceSub, Nat.reduceEqDiff, Nat.reduceLeDiff, Nat.reduceLT, Nat.reduceAdd, reduceCtorEq, Tick.enc, Tick.encC_all, Tick.enc_0, Tick.enc_1, Tick.enc_10, Tick.enc_2, Tick.enc_3, Tick.enc_4, Tick.enc_5, Tick.enc_6, Tick.enc_7, Tick.enc_8, Tick.enc_9, Tick.enc_all, Tick.enc_len, Tick.subC_1_2, Tick.subC_5_4, Tick.sub_1_2, Tick.sub_5_4, Config.encC_all, Config.enc_0, Config.enc_1, Config.enc_10, Config.enc_11, Config.enc_12, Config.enc_13, Config.enc_2, Config.enc_3, Config.enc_4, Config.enc_5, Config.enc_6, Config.enc_7, Config.enc_8, Config.enc_9, Config.enc_all, Config.enc_len, List.getElem?_map, Option.map_some, List.length_map, map_clC, map_nmC, ei64_0, eu8_0, eL_0, e1, e2, e3, e4, e5, e6, e7, e8, e9, e10, e11, e12, g48, g99, h1, h2, h3, h4, h5, q, g2, hs]
                simp only [faultV, h1, h2, h3, or_self, if_false, hy, hs, if_true]
                all_goals rfl
              | false =>
                simp (maxSteps := 4000000) -implicitDefEqProofs only [↓r100_3, ↓r100_4,  go_sem, ↓reduceIte, Nat.reduceMul, Int.reduceLT, Int.reduceNeg, Int.reduceEq, Int.reduceLE, Int.reduceAdd, Int.reduceSub, Nat.reduceEqDiff, Nat.reduceLeDiff, Nat.reduceLT, Nat.reduceAdd, reduceCtorEq, Tick.enc, Tick.encC_all, Tick.enc_0, Tick.enc_1, Tick.enc_10, Tick.enc_2, Tick.enc_3, Tick.enc_4, Tick.enc_5, Tick.enc_6, Tick.enc_7, Tick.enc_8, Tick.enc_9, Tick.enc_all, Tick.enc_len, Tick.subC_1_2, Tick.subC_5_4, Tick.sub_1_2, Tick.sub_5_4, Config.encC_all, Config.enc_0, Config.enc_1, Config.enc_10, Config.enc_11, Config.enc_12, Config.enc_13, Config.enc_2, Config.enc_3, Config.enc_4, Config.enc_5, Config.enc_6, Config.enc_7, Config.enc_8, Config.enc_9, Config.enc_all, Config.enc_len, List.getElem?_map, Option.map_some, List.length_map, map_clC, map_nmC, ei64_0, eu8_0, eL_0, e1, e2, e3, e4, e5, e6, e7, e8, e9, e10, e11, e12, g48, g99, h1, h2, h3, h4, h5, q, g2, hs]
                simp only [faultV, h1, h2, h3, or_self, if_false, hy, hs, Bool.false_eq_true]
          · have hy : ftY d m y = { y with rad := w64 (w64 (2 * rto (rnd (rnd d)) (w64 (m.c.maxSpeed + 1))) - m.c.maxSpeed) } := by
              unfold ftY; rw [if_neg h4, if_neg h5]
            have g2 : ∀ F dd, callL tab ext 144 [.c (.ptr j 0), .agg [J y.v, J (y.slip 0), J (y.slip 1), J (w64 (w64 (2 * rto (rnd (rnd d)) (w64 (m.c.maxSpeed + 1))) - m.c.maxSpeed)), J y.acc, .d (.b (y.lost 0)), .d (.b (y.lost 1)), .d (.b (y.lost 2)), .d (.b (y.lost 3)), .d (.l 1 (y.junk.map (eL 1 eu8))), .d (.b y.command)]] (mset (hp H F) i j dd (MK (.ptr i 0) m)) = some (.B (mkShows m { y with rad := w64 (w64 (2 * rto (rnd (rnd d)) (w64 (m.c.maxSpeed + 1))) - m.c.maxSpeed) }), mset (hp H F) i j dd (MK (.ptr i 0) m)) := fun F dd => g1 F dd { y with rad := w64 (w64 (2 * rto (rnd (rnd d)) (w64 (m.c.maxSpeed + 1))) - m.c.maxSpeed) }
            cases hs : mkShows m { y with rad := w64 (w64 (2 * rto (rnd (rnd d)) (w64 (m.c.maxSpeed + 1))) - m.c.maxSpeed) } with
            | true =>
              simp (maxSteps := 4000000) -implicitDefEqProofs only [↓r100_3, ↓r100_4,  go_sem, ↓reduceIte, Nat.reduceMul, Int.reduceLT, Int.reduceNeg, Int.reduceEq, Int.reduceLE, Int.reduceAdd, Int.reduceSub, Nat.reduceEqDiff, Nat.reduceLeDiff, Nat.reduceLT, Nat.reduceAdd, reduceCtorEq, Tick.enc, Tick.encC_all, Tick.enc_0, Tick.enc_1, Tick.enc_10, Tick.enc_2, Tick.enc_3, Tick.enc_4, Tick.enc_5, Tick.enc_6, Tick.enc_7, Tick.enc_8, Tick.enc_9, Tick.enc_all, Tick.enc_len, Tick.subC_1_2, Tick.subC_5_4, Tick.sub_1_2, Tick.sub_5_4, Config.encC_all, Config.enc_0, Config.enc_1, Config.enc_10, Config.enc_11, Config.enc_12, Config.enc_13, Config.enc_2, Config.enc_3, Config.enc_4, Config.enc_5, Config.enc_6, Config.enc_7, Config.enc_8, Config.enc_9, Config.enc_all, Config.enc_len, List.getElem?_map, Option.map_some, List.length_map, map_clC, map_nmC, ei64_0, eu8_0, eL_0, e1, e2, e3, e4, e5, e6, e7, e8, e9, e10, e11, e12, g48, g99, h1, h2, h3, h4, h5, g2, hs]
              simp only [faultV, h1, h2, h3, or_self, if_false, hy, hs, if_true]
              all_goals rfl
            | false =>
              simp (maxSteps := 4000000) -implicitDefEqProofs only [↓r100_3, ↓r100_4,  go_sem, ↓reduceIte, Nat.reduceMul, Int.reduceLT, Int.reduceNeg, Int.reduceEq, Int.reduceLE, Int.reduceAdd, Int.reduceSub, Nat.reduceEqDiff, Nat.reduceLeDiff, Nat.reduceLT, Nat.reduceAdd, reduceCtorEq, Tick.enc, Tick.encC_all, Tick.enc_0, Tick.enc_1, Tick.enc_10, Tick.enc_2, Tick.enc_3, Tick.enc_4, Tick.enc_5, Tick.enc_6, Tick.enc_7, Tick.enc_8, Tick.enc_9, Tick.enc_all, Tick.enc_len, Tick.subC_1_2, Tick.subC_5_4, Tick.sub_1_2, Tick.sub_5_4, Config.encC_all, Config.enc_0, Config.enc_1, Config.enc_10, Config.enc_11, Config.enc_12, Config.enc_13, Config.enc_2, Config.enc_3, Config.enc_4, Config.enc_5, Config.enc_6, Config.enc_7, Config.enc_8, Config.enc_9, Config.enc_all, Config.enc_len, List.getElem?_map, Option.map_some, List.length_map, map_clC, map_nmC, ei64_0, eu8_0, eL_0, e1, e2, e3, e4, e5, e6, e7, e8, e9, e10, e11, e12, g48, g99, h1, h2, h3, h4, h5, g2, hs]
              simp only [faultV, h1, h2, h3, or_self, if_false, hy, hs, Bool.false_eq_true]
end

end
end Go.Ab
namespace Go.Ab
section
variable {ext : Callee}
set_option maxHeartbeats 4000000 in
theorem l18_1 (a1 a2 a3 a5 a23 a24 a25 : V) (H : Heap) (b0 b1 b2 b3 : Box) (x0 x1 x2 x3 x4 x9 x10 : C) (p0 p1 p2 p3 : Bool) (l0 l1 l2 l3 : Int) :
    runL tab ext k18_1 ⟨(upd (upd (upd (upd (upd (upd (upd (upd (upd (upd und 42 (.I 0)) 41 (.agg [.d (.b p0), .d (.b p1), .d (.b p2), .d (.b p3)])) 25 (a25)) 24 (a24)) 23 (a23)) 6 (.c (.ptr (pid H 4) 0))) 5 (a5)) 3 (a3)) 2 (a2)) 1 (a1)), hp H [b0, b1, b2, b3, ⟨true, [x0, x1, x2, x3, x4, J l0, J l1, J l2, J l3, x9, x10]⟩]⟩ = some (.exit 2, ⟨(upd (upd (upd (upd (upd (upd (upd (upd und 25 (a25)) 24 (a24)) 23 (a23)) 6 (.c (.ptr (pid H 4) 0))) 5 (a5)) 3 (a3)) 2 (a2)) 1 (a1)), hp H [b0, b1, b2, b3, ⟨true, [x0, x1, x2, x3, x4, J (if p0 = true then 1 else l0), J (if p1 = true then 1 else l1), J (if p2 = true then 1 else l2), J (if p3 = true then 1 else l3), x9, x10]⟩]⟩) := by
  have n4 : ∀ l0 l1 l2 l3 : Int, runL tab ext k18_1 ⟨(upd (upd (upd (upd (upd (upd (upd (upd (upd (upd und 42 (.I 4)) 41 (.agg [.d (.b p0), .d (.b p1), .d (.b p2), .d (.b p3)])) 25 (a25)) 24 (a24)) 23 (a23)) 6 (.c (.ptr (pid H 4) 0))) 5 (a5)) 3 (a3)) 2 (a2)) 1 (a1)), hp H [b0, b1, b2, b3, ⟨true, [x0, x1, x2, x3, x4, J l0, J l1, J l2, J l3, x9, x10]⟩]⟩ = some (.exit 2, ⟨(upd (upd (upd (upd (upd (upd (upd (upd und 25 (a25)) 24 (a24)) 23 (a23)) 6 (.c (.ptr (pid H 4) 0))) 5 (a5)) 3 (a3)) 2 (a2)) 1 (a1)), hp H [b0, b1, b2, b3, ⟨true, [x0, x1, x2, x3, x4, J l0, J l1, J l2, J l3, x9, x10]⟩]⟩) := by
    intro l0 l1 l2 l3
    rw [s18_1, b18_1]
    simp (maxSteps := 4000000) only [ go_sem, ↓reduceIte, Nat.reduceMul, Int.reduceLT, Int.reduceNeg, Int.reduceEq, Int.reduceLE, Int.reduceAdd, Int.reduceSub, Nat.reduceEqDiff, Nat.reduceLeDiff, Nat.reduceLT, Nat.reduceAdd, reduceCtorEq, List.getElem?_map, Option.map_some, List.length_map, map_clC, map_nmC, ei64_0, eu8_0, eL_0]
    simp only [kst]
  have n3 : ∀ l0 l1 l2 l3 : Int, runL tab ext k18_1 ⟨(upd (upd (upd (upd (upd (upd (upd (upd (upd (upd und 42 (.I 3)) 41 (.agg [.d (.b p0), .d (.b p1), .d (.b p2), .d (.b p3)])) 25 (a25)) 24 (a24)) 23 (a23)) 6 (.c (.ptr (pid H 4) 0))) 5 (a5)) 3 (a3)) 2 (a2)) 1 (a1)), hp H [b0, b1, b2, b3, ⟨true, [x0, x1, x2, x3, x4, J l0, J l1, J l2, J l3, x9, x10]⟩]⟩ = some (.exit 2, ⟨(upd (upd (upd (upd (upd (upd (upd (upd und 25 (a25)) 24 (a24)) 23 (a23)) 6 (.c (.ptr (pid H 4) 0))) 5 (a5)) 3 (a3)) 2 (a2)) 1 (a1)), hp H [b0, b1, b2, b3, ⟨true, [x0, x1, x2, x3, x4, J l0, J l1, J l2, J (if p3 = true then 1 else l3), x9, x10]⟩]⟩) := by
    intro l0 l1 l2 l3
    rw [s18_1, b18_1]
    cases p3 <;> simp (maxSteps := 4000000) only [ go_sem, ↓reduceIte, Nat.reduceMul, Int.reduceLT, Int.reduceNeg, Int.reduceEq, Int.reduceLE, Int.reduceAdd, Int.reduceSub, Nat.reduceEqDiff, Nat.reduceLeDiff, Nat.reduceLT, Nat.reduceAdd, reduceCtorEq, List.getElem?_map, Option.map_some, List.length_map, map_clC, map_nmC, ei64_0, eu8_0, eL_0, n4] <;> simp only [kst, Bool.false_eq_true, if_false, if_true]
  have n2 : ∀ l0 l1 l2 l3 : Int, runL tab ext k18_1 ⟨(upd (upd (upd (upd (upd (upd (upd (upd (upd (upd und 42 (.I 2)) 41 (.agg [.d (.b p0), .d (.b p1), .d (.b p2), .d (.b p3)])) 25 (a25)) 24 (a24)) 23 (a23)) 6 (.c (.ptr (pid H 4) 0))) 5 (a5)) 3 (a3)) 2 (a2)) 1 (a1)), hp H [b0, b1, b2, b3, ⟨true, [x0, x1, x2, x3, x4, J l0, J l1, J l2, J l3, x9, x10]⟩]⟩ = some (.exit 2, ⟨(upd (upd (upd (upd (upd (upd (upd (upd und 25 (a25)) 24 (a24)) 23 (a23)) 6 (.c (.ptr (pid H 4) 0))) 5 (a5)) 3 (a3)) 2 (a2)) 1 (a1)), hp H [b0, b1, b2, b3, ⟨true, [x0, x1, x2, x3, x4, J l0, J l1, J (if p2 = true then 1 else l2), J (if p3 = true then 1 else l3), x9, x10]⟩]⟩) := by
    intro l0 l1 l2 l3
    rw [s18_1, b18_1]
    cases p2 <;> simp (maxSteps := 4000000) only [ go_sem, ↓reduceIte, Nat.reduceMul, Int.reduceLT, Int.reduceNeg, Int.reduceEq, Int.reduceLE, Int.reduceAdd, Int.reduceSub, Nat.reduceEqDiff, Nat.reduceLeDiff, Nat.reduceLT, Nat.reduceAdd, reduceCtorEq, List.getElem?_map, Option.map_some, List.length_map, map_clC, map_nmC, ei64_0, eu8_0, eL_0, n3] <;> simp only [kst, Bool.false_eq_true, if_false, if_true]
  have n1 : ∀ l0 l1 l2 l3 : Int, runL tab ext k18_1 ⟨(upd (upd (upd (upd (upd (upd (upd (upd (upd (upd und 42 (.I 1)) 41 (.agg [.d (.b p0), .d (.b p1), .d (.b p2), .d (.b p3)])) 25 (a25)) 24 (a24)) 23 (a23)) 6 (.c (.ptr (pid H 4) 0))) 5 (a5)) 3 (a3)) 2 (a2)) 1 (a1)), hp H [b0, b1, b2, b3, ⟨true, [x0, x1, x2, x3, x4, J l0, J l1, J l2, J l3, x9, x10]⟩]⟩ = some (.exit 2, ⟨(upd (upd (upd (upd (upd (upd (upd (upd und 25 (a25)) 24 (a24)) 23 (a23)) 6 (.c (.ptr (pid H 4) 0))) 5 (a5)) 3 (a3)) 2 (a2)) 1 (a1)), hp H [b0, b1, b2, b3, ⟨true, [x0, x1, x2, x3, x4, J l0, J (if p1 = true then 1 else l1), J (if p2 = true then 1 else l2), J (if p3 = true then 1 else l3), x9, x10]⟩]⟩) := by
    intro l0 l1 l2 l3
    rw [s18_1, b18_1]
    cases p1 <;> simp (maxSteps := 4000000) only [ go_sem, ↓reduceIte, Nat.reduceMul, Int.reduceLT, Int.reduceNeg, Int.reduceEq, Int.reduceLE, Int.reduceAdd, Int.reduceSub, Nat.reduceEqDiff, Nat.reduceLeDiff, Nat.reduceLT, Nat.reduceAdd, reduceCtorEq, List.getElem?_map, Option.map_some, List.length_map, map_clC, map_nmC, ei64_0, eu8_0, eL_0, n2] <;> simp only [kst, Bool.false_eq_true, if_false, if_true]
  rw [s18_1, b18_1]
  cases p0 <;> simp (maxSteps := 4000000) only [ go_sem, ↓reduceIte, Nat.reduceMul, Int.reduceLT, Int.reduceNeg, Int.reduceEq, Int.reduceLE, Int.reduceAdd, Int.reduceSub, Nat.reduceEqDiff, Nat.reduceLeDiff, Nat.reduceLT, Nat.reduceAdd, reduceCtorEq, List.getElem?_map, Option.map_some, List.length_map, map_clC, map_nmC, ei64_0, eu8_0, eL_0, n1] <;> simp only [kst, Bool.false_eq_true, if_false, if_true]
set_option maxHeartbeats 4000000 in
theorem l18_0 (l : List Tick) (b0 b1 : Box) (y0 y1 y2 y3 y4 y5 y6 y8 : C) (H : Heap) (hn : l.length ≤ 4096) : ∀ (r : List Tick) (i : Nat) (acc : List RTick), l.drop i = r → acc.length = i →
    runL tab ext k18_0 ⟨(upd (upd (upd (upd (upd (upd und 25 (.I i)) 24 (.I l.length)) 23 (VL 11 Tick.enc l)) 3 (.c (.ptr (pid H 2) 0))) 2 (.c (.ptr (pid H 1) 0))) 1 (.c (.ptr (pid H 0) 0))), hp H [b0, b1, ⟨true, [y0, y1, y2, y3, y4, y5, y6, ownL 136 11 RTick.enc acc, y8]⟩]⟩ =
    some (.exit 0, ⟨(upd (upd (upd und 3 (.c (.ptr (pid H 2) 0))) 2 (.c (.ptr (pid H 1) 0))) 1 (.c (.ptr (pid H 0) 0))), hp H [b0, b1, ⟨true, [y0, y1, y2, y3, y4, y5, y6, ownL 136 11 RTick.enc (acc ++ r.map refTick), y8]⟩]⟩)
  | [], i, acc, hs, ha => by
    have h0 := dr_end hs
    rw [s18_0, b18_0]
    simp (maxSteps := 4000000) only [ go_sem, ↓reduceIte, Nat.reduceMul, Int.reduceLT, Int.reduceNeg, Int.reduceEq, Int.reduceLE, Int.reduceAdd, Int.reduceSub, Nat.reduceEqDiff, Nat.reduceLeDiff, Nat.reduceLT, Nat.reduceAdd, reduceCtorEq, Tick.enc, Tick.encC_all, Tick.enc_0, Tick.enc_1, Tick.enc_10, Tick.enc_2, Tick.enc_3, Tick.enc_4, Tick.enc_5, Tick.enc_6, Tick.enc_7, Tick.enc_8, Tick.enc_9, Tick.enc_all, Tick.enc_len, Tick.subC_1_2, Tick.subC_5_4, Tick.sub_1_2, Tick.sub_5_4, List.getElem?_map, Option.map_some, List.length_map, map_clC, map_nmC, ei64_0, eu8_0, eL_0, h0]
    simp only [kst, List.map_nil, List.append_nil]
  | k :: r, i, acc, hs, ha => by
    obtain ⟨h1, h2, h3⟩ := dr_cons hs
    have ih := l18_0 l b0 b1 y0 y1 y2 y3 y4 y5 y6 y8 H hn r (i + 1) (acc ++ [refTick k]) h3 (by simp [ha])
    have h4 := dr_lt h2
    have h5 := w64_inc h2 (by omega)
    have h6 := app_ok h2 hn 104 (by omega)
    have hin := fun a1 a2 a3 a5 a23 a24 a25 b3 b4 b5 b6 x0 x1 x2 x3 x4 x9 x10 => l18_1 (ext := ext) a1 a2 a3 a5 a23 a24 a25 H b3 b4 b5 b6 x0 x1 x2 x3 x4 x9 x10 (k.lost 0) (k.lost 1) (k.lost 2) (k.lost 3) 0 0 0 0
    have hz : ∀ c : Int, c = b2i k.command → [D.i .i64 k.v, .i .i64 (k.slip 0), .i .i64 (k.slip 1), .i .i64 k.rad, .i .i64 k.acc, .i .i64 (if k.lost 0 = true then 1 else 0), .i .i64 (if k.lost 1 = true then 1 else 0), .i .i64 (if k.lost 2 = true then 1 else 0), .i .i64 (if k.lost 3 = true then 1 else 0), .l 1 (k.junk.map (eL 1 eu8)), .i .i64 c] = RTick.enc (refTick k) := by
      intro c hc; subst hc; rfl
    rw [s18_0, b18_0]
    cases hc : k.command with
    | true =>
      have hap := fun e H d bytes x (l : List RTick) => app_own1 (e := e) (H := H) (d := d) (en := 136) (sz := 11) (bytes := bytes) (x := x) (f := RTick.enc) (l := l) (hz 1 (by rw [hc]; rfl))
      simp (maxSteps := 4000000) only [ go_sem, ↓reduceIte, Nat.reduceMul, Int.reduceLT, Int.reduceNeg, Int.reduceEq, Int.reduceLE, Int.reduceAdd, Int.reduceSub, Nat.reduceEqDiff, Nat.reduceLeDiff, Nat.reduceLT, Nat.reduceAdd, reduceCtorEq, Tick.enc, Tick.encC_all, Tick.enc_0, Tick.enc_1, Tick.enc_10, Tick.enc_2, Tick.enc_3, Tick.enc_4, Tick.enc_5, Tick.enc_6, Tick.enc_7, Tick.enc_8, Tick.enc_9, Tick.enc_all, Tick.enc_len, Tick.subC_1_2, Tick.subC_5_4, Tick.sub_1_2, Tick.sub_5_4, List.getElem?_map, Option.map_some, List.length_map, map_clC, map_nmC, ei64_0, eu8_0, eL_0, step_ldt, ldtC_ownL, step_stt, sttC_ownL, chop_one, h1, h4, h5, h6, ha, hc, hin, hap, ih]
      simp only [kst, List.map_cons, List.append_assoc, List.singleton_append]
    | false =>
      have hap := fun e H d bytes x (l : List RTick) => app_own1 (e := e) (H := H) (d := d) (en := 136) (sz := 11) (bytes := bytes) (x := x) (f := RTick.enc) (l := l) (hz 0 (by rw [hc]; rfl))
      simp (maxSteps := 4000000) only [ go_sem, ↓reduceIte, Nat.reduceMul, Int.reduceLT, Int.reduceNeg, Int.reduceEq, Int.reduceLE, Int.reduceAdd, Int.reduceSub, Nat.reduceEqDiff, Nat.reduceLeDiff, Nat.reduceLT, Nat.reduceAdd, reduceCtorEq, Tick.enc, Tick.encC_all, Tick.enc_0, Tick.enc_1, Tick.enc_10, Tick.enc_2, Tick.enc_3, Tick.enc_4, Tick.enc_5, Tick.enc_6, Tick.enc_7, Tick.enc_8, Tick.enc_9, Tick.enc_all, Tick.enc_len, Tick.subC_1_2, Tick.subC_5_4, Tick.sub_1_2, Tick.sub_5_4, List.getElem?_map, Option.map_some, List.length_map, map_clC, map_nmC, ei64_0, eu8_0, eL_0, step_ldt, ldtC_ownL, step_stt, sttC_ownL, chop_one, h1, h4, h5, h6, ha, hc, hin, hap, ih]
      simp only [kst, List.map_cons, List.append_assoc, List.singleton_append]
set_option maxHeartbeats 4000000 in
theorem l18_2 (l : List Read) (b0 b1 : Box) (y0 y1 y2 y3 y4 y5 y6 y7 : C) (H : Heap) (hn : l.length ≤ 4096) : ∀ (r : List Read) (i : Nat) (acc : List Read), l.drop i = r → acc.length = i →
    runL tab ext k18_2 ⟨(upd (upd (upd (upd (upd und 64 (.I i)) 63 (.I l.length)) 62 (VL 4 Read.enc l)) 3 (.c (.ptr (pid H 2) 0))) 2 (.c (.ptr (pid H 1) 0))), hp H [b0, b1, ⟨true, [y0, y1, y2, y3, y4, y5, y6, y7, ownL 72 4 Read.enc acc]⟩]⟩ =
    some (.exit 4, ⟨(upd (upd und 3 (.c (.ptr (pid H 2) 0))) 2 (.c (.ptr (pid H 1) 0))), hp H [b0, b1, ⟨true, [y0, y1, y2, y3, y4, y5, y6, y7, ownL 72 4 Read.enc (acc ++ r)]⟩]⟩)
  | [], i, acc, hs, ha => by
    have h0 := dr_end hs
    rw [s18_2, b18_2]
    simp (maxSteps := 4000000) only [ go_sem, ↓reduceIte, Nat.reduceMul, Int.reduceLT, Int.reduceNeg, Int.reduceEq, Int.reduceLE, Int.reduceAdd, Int.reduceSub, Nat.reduceEqDiff, Nat.reduceLeDiff, Nat.reduceLT, Nat.reduceAdd, reduceCtorEq, Read.enc, Read.encC_all, Read.enc_0, Read.enc_1, Read.enc_2, Read.enc_3, Read.enc_all, Read.enc_len, List.getElem?_map, Option.map_some, List.length_map, map_clC, map_nmC, ei64_0, eu8_0, eL_0, h0]
    simp only [kst, List.append_nil]
  | k :: r, i, acc, hs, ha => by
    obtain ⟨h1, h2, h3⟩ := dr_cons hs
    have ih := l18_2 l b0 b1 y0 y1 y2 y3 y4 y5 y6 y7 H hn r (i + 1) (acc ++ [k]) h3 (by simp [ha])
    have h4 := dr_lt h2
    have h5 := w64_inc h2 (by omega)
    have h6 := app_ok h2 hn 32 (by omega)
    have hz : [D.i .i64 k.cycle, .i .i64 k.index, .i .i64 k.group, .i .i64 k.point] = Read.enc k := rfl
    have hap := fun e H d bytes x (l : List Read) => app_own1 (e := e) (H := H) (d := d) (en := 72) (sz := 4) (bytes := bytes) (x := x) (f := Read.enc) (l := l) hz
    rw [s18_2, b18_2]
    simp (maxSteps := 4000000) only [ go_sem, ↓reduceIte, Nat.reduceMul, Int.reduceLT, Int.reduceNeg, Int.reduceEq, Int.reduceLE, Int.reduceAdd, Int.reduceSub, Nat.reduceEqDiff, Nat.reduceLeDiff, Nat.reduceLT, Nat.reduceAdd, reduceCtorEq, Read.enc, Read.encC_all, Read.enc_0, Read.enc_1, Read.enc_2, Read.enc_3, Read.enc_all, Read.enc_len, List.getElem?_map, Option.map_some, List.length_map, map_clC, map_nmC, ei64_0, eu8_0, eL_0, step_ldt, ldtC_ownL, step_stt, sttC_ownL, chop_one, h1, h4, h5, h6, ha, hap, ih]
    simp only [kst, List.append_assoc, List.singleton_append]
set_option maxHeartbeats 4000000 in
theorem c18 {H : Heap} (s : Script) (hn : s.ticks.length ≤ 4096) (hr : s.reads.length ≤ 4096) : callL tab ext 18 [.agg ((Script.enc s).map .d)] H = some (.agg ((RScript.enc (refS s)).map .d), H) := by
  have hl := fun b0 b1 y0 y1 y2 y3 y4 y5 y6 y8 => l18_0 (ext := ext) s.ticks b0 b1 y0 y1 y2 y3 y4 y5 y6 y8 H hn s.ticks 0 [] rfl rfl
  have hl2 := fun b0 b1 y0 y1 y2 y3 y4 y5 y6 y7 => l18_2 (ext := ext) s.reads b0 b1 y0 y1 y2 y3 y4 y5 y6 y7 H hr s.reads 0 [] rfl rfl
  simp only [nat_0, ownL_0, List.nil_append] at hl hl2
  rw [cl_18 rfl, B18]
  simp (maxSteps := 4000000) only [ go_sem, ↓reduceIte, Nat.reduceMul, Int.reduceLT, Int.reduceNeg, Int.reduceEq, Int.reduceLE, Int.reduceAdd, Int.reduceSub, Nat.reduceEqDiff, Nat.reduceLeDiff, Nat.reduceLT, Nat.reduceAdd, reduceCtorEq, Script.encC_all, Script.enc_0, Script.enc_1, Script.enc_2, Script.enc_3, Script.enc_4, Script.enc_5, Script.enc_6, Script.enc_7, Script.enc_8, Script.enc_all, Script.enc_len, Script.subC_3_2, Script.subC_5_2, Script.sub_3_2, Script.sub_5_2, List.getElem?_map, Option.map_some, List.length_map, map_clC, map_nmC, ei64_0, eu8_0, eL_0, hl, hl2]
  rfl
set_option maxHeartbeats 4000000 in
theorem l16_1 (segs : List Segment) (n m : Int) (l : List Piece) (b0 b1 b2 b3 : Box) (z0 z2 : C) (H : Heap) (hn : l.length ≤ 4096) : ∀ (r : List Piece) (i : Nat) (acc : List Piece), l.drop i = r → acc.length = i →
    runL tab ext k16_1 ⟨(upd (upd (upd (upd (upd (upd (upd (upd (upd (upd und 26 (.I i)) 25 (.I l.length)) 24 (VL 2 Piece.enc l)) 14 (.I m)) 13 (.I n)) 12 (VL 3 Segment.enc segs)) 6 (.c (.ptr (pid H 4) 0))) 3 (.c (.ptr (pid H 2) 0))) 2 (.c (.ptr (pid H 1) 0))) 1 (.c (.ptr (pid H 0) 0))), hp H [b0, b1, b2, b3, ⟨true, [z0, ownL 125 2 Piece.enc acc, z2]⟩]⟩ =
    some (.exit 2, ⟨(upd (upd (upd (upd (upd (upd (upd und 14 (.I m)) 13 (.I n)) 12 (VL 3 Segment.enc segs)) 6 (.c (.ptr (pid H 4) 0))) 3 (.c (.ptr (pid H 2) 0))) 2 (.c (.ptr (pid H 1) 0))) 1 (.c (.ptr (pid H 0) 0))), hp H [b0, b1, b2, b3, ⟨true, [z0, ownL 125 2 Piece.enc (acc ++ r), z2]⟩]⟩)
  | [], i, acc, hs, ha => by
    have h0 := dr_end hs
    rw [s16_1, b16_1]
    simp (maxSteps := 4000000) only [ go_sem, ↓reduceIte, Nat.reduceMul, Int.reduceLT, Int.reduceNeg, Int.reduceEq, Int.reduceLE, Int.reduceAdd, Int.reduceSub, Nat.reduceEqDiff, Nat.reduceLeDiff, Nat.reduceLT, Nat.reduceAdd, reduceCtorEq, Piece.enc, Piece.encC_all, Piece.enc_0, Piece.enc_1, Piece.enc_all, Piece.enc_len, List.getElem?_map, Option.map_some, List.length_map, map_clC, map_nmC, ei64_0, eu8_0, eL_0, h0]
    simp only [kst, List.append_nil]
  | k :: r, i, acc, hs, ha => by
    obtain ⟨h1, h2, h3⟩ := dr_cons hs
    have ih := l16_1 segs n m l b0 b1 b2 b3 z0 z2 H hn r (i + 1) (acc ++ [k]) h3 (by simp [ha])
    have h4 := dr_lt h2
    have h5 := w64_inc h2 (by omega)
    have h6 := app_ok h2 hn 16 (by omega)
    have hz : [D.i .i64 k.from_, .i .i64 k.grade] = Piece.enc k := rfl
    have hap := fun e H d bytes x (l : List Piece) => app_own1 (e := e) (H := H) (d := d) (en := 125) (sz := 2) (bytes := bytes) (x := x) (f := Piece.enc) (l := l) hz
    rw [s16_1, b16_1]
    simp (maxSteps := 4000000) only [ go_sem, ↓reduceIte, Nat.reduceMul, Int.reduceLT, Int.reduceNeg, Int.reduceEq, Int.reduceLE, Int.reduceAdd, Int.reduceSub, Nat.reduceEqDiff, Nat.reduceLeDiff, Nat.reduceLT, Nat.reduceAdd, reduceCtorEq, Piece.enc, Piece.encC_all, Piece.enc_0, Piece.enc_1, Piece.enc_all, Piece.enc_len, List.getElem?_map, Option.map_some, List.length_map, map_clC, map_nmC, ei64_0, eu8_0, eL_0, step_ldt, ldtC_ownL, step_stt, sttC_ownL, h1, h4, h5, h6, ha, hap, ih]
    simp only [kst, List.append_assoc, List.singleton_append]
set_option maxHeartbeats 4000000 in
theorem l16_0 (l : List Segment) (b0 b1 : Box) (w1 : C) (H : Heap) (hn : l.length ≤ 4096) (hp' : ∀ k ∈ l, k.pieces.length ≤ 4096) : ∀ (r : List Segment) (i : Nat) (acc : List Segment), l.drop i = r → acc.length = i →
    runL tab ext k16_0 ⟨(upd (upd (upd (upd (upd (upd und 14 (.I i)) 13 (.I l.length)) 12 (VL 3 Segment.enc l)) 3 (.c (.ptr (pid H 2) 0))) 2 (.c (.ptr (pid H 1) 0))) 1 (.c (.ptr (pid H 0) 0))), hp H [b0, b1, ⟨true, [ownL 124 3 Segment.enc acc, w1]⟩]⟩ =
    some (.exit 0, ⟨(upd (upd (upd und 3 (.c (.ptr (pid H 2) 0))) 2 (.c (.ptr (pid H 1) 0))) 1 (.c (.ptr (pid H 0) 0))), hp H [b0, b1, ⟨true, [ownL 124 3 Segment.enc (acc ++ r), w1]⟩]⟩)
  | [], i, acc, hs, ha => by
    have h0 := dr_end hs
    rw [s16_0, b16_0]
    simp (maxSteps := 4000000) only [ go_sem, ↓reduceIte, Nat.reduceMul, Int.reduceLT, Int.reduceNeg, Int.reduceEq, Int.reduceLE, Int.reduceAdd, Int.reduceSub, Nat.reduceEqDiff, Nat.reduceLeDiff, Nat.reduceLT, Nat.reduceAdd, reduceCtorEq, Segment.enc, Segment.encC_all, Segment.enc_0, Segment.enc_1, Segment.enc_2, Segment.enc_all, Segment.enc_len, List.getElem?_map, Option.map_some, List.length_map, map_clC, map_nmC, ei64_0, eu8_0, eL_0, h0]
    simp only [kst, List.append_nil]
  | k :: r, i, acc, hs, ha => by
    obtain ⟨h1, h2, h3⟩ := dr_cons hs
    have ih := l16_0 l b0 b1 w1 H hn hp' r (i + 1) (acc ++ [k]) h3 (by simp [ha])
    have h4 := dr_lt h2
    have h5 := w64_inc h2 (by omega)
    have h6 := app_ok h2 hn 56 (by omega)
    have hin := fun b2 b3 z0 z2 => l16_1 (ext := ext) l l.length i k.pieces b0 b1 b2 b3 z0 z2 H (hp' k (List.mem_of_getElem? h1)) k.pieces 0 [] rfl rfl
    simp only [nat_0, ownL_0, List.nil_append] at hin
    have hz : [D.i .i64 k.length, .l 2 (k.pieces.map Piece.enc), .l 1 (k.next.map ei64)] = Segment.enc k := rfl
    have hap := fun e H d bytes x (l : List Segment) => app_own1 (e := e) (H := H) (d := d) (en := 124) (sz := 3) (bytes := bytes) (x := x) (f := Segment.enc) (l := l) hz
    rw [s16_0, b16_0]
    simp (maxSteps := 4000000) only [ go_sem, ↓reduceIte, Nat.reduceMul, Int.reduceLT, Int.reduceNeg, Int.reduceEq, Int.reduceLE, Int.reduceAdd, Int.reduceSub, Nat.reduceEqDiff, Nat.reduceLeDiff, Nat.reduceLT, Nat.reduceAdd, reduceCtorEq, Segment.enc, Segment.encC_all, Segment.enc_0, Segment.enc_1, Segment.enc_2, Segment.enc_all, Segment.enc_len, List.getElem?_map, Option.map_some, List.length_map, map_clC, map_nmC, ei64_0, eu8_0, eL_0, step_ldt, ldtC_ownL, step_stt, sttC_ownL, chop_one, h1, h4, h5, h6, ha, hin, hap, ih]
    simp only [kst, List.append_assoc, List.singleton_append]
set_option maxHeartbeats 4000000 in
theorem l16_2 (l : List Group) (b0 b1 : Box) (w0 : C) (H : Heap) (hn : l.length ≤ 4096) : ∀ (r : List Group) (i : Nat) (acc : List Group), l.drop i = r → acc.length = i →
    runL tab ext k16_2 ⟨(upd (upd (upd (upd (upd und 51 (.I i)) 50 (.I l.length)) 49 (VL 5 Group.enc l)) 3 (.c (.ptr (pid H 2) 0))) 2 (.c (.ptr (pid H 1) 0))), hp H [b0, b1, ⟨true, [w0, ownL 74 5 Group.enc acc]⟩]⟩ =
    some (.exit 4, ⟨(upd (upd und 3 (.c (.ptr (pid H 2) 0))) 2 (.c (.ptr (pid H 1) 0))), hp H [b0, b1, ⟨true, [w0, ownL 74 5 Group.enc (acc ++ r)]⟩]⟩)
  | [], i, acc, hs, ha => by
    have h0 := dr_end hs
    rw [s16_2, b16_2]
    simp (maxSteps := 4000000) only [ go_sem, ↓reduceIte, Nat.reduceMul, Int.reduceLT, Int.reduceNeg, Int.reduceEq, Int.reduceLE, Int.reduceAdd, Int.reduceSub, Nat.reduceEqDiff, Nat.reduceLeDiff, Nat.reduceLT, Nat.reduceAdd, reduceCtorEq, Group.enc, Group.encC_all, Group.enc_0, Group.enc_1, Group.enc_2, Group.enc_3, Group.enc_4, Group.enc_all, Group.enc_len, List.getElem?_map, Option.map_some, List.length_map, map_clC, map_nmC, ei64_0, eu8_0, eL_0, h0]
    simp only [kst, List.append_nil]
  | k :: r, i, acc, hs, ha => by
    obtain ⟨h1, h2, h3⟩ := dr_cons hs
    have ih := l16_2 l b0 b1 w0 H hn r (i + 1) (acc ++ [k]) h3 (by simp [ha])
    have h4 := dr_lt h2
    have h5 := w64_inc h2 (by omega)
    have h6 := app_ok h2 hn 40 (by omega)
    have hz : [D.i .i64 k.id, .i .i64 k.segment, .i .i64 k.offset, .i .i64 k.acc, .i .i64 k.slack] = Group.enc k := rfl
    have hap := fun e H d bytes x (l : List Group) => app_own1 (e := e) (H := H) (d := d) (en := 74) (sz := 5) (bytes := bytes) (x := x) (f := Group.enc) (l := l) hz
    rw [s16_2, b16_2]
    simp (maxSteps := 4000000) only [ go_sem, ↓reduceIte, Nat.reduceMul, Int.reduceLT, Int.reduceNeg, Int.reduceEq, Int.reduceLE, Int.reduceAdd, Int.reduceSub, Nat.reduceEqDiff, Nat.reduceLeDiff, Nat.reduceLT, Nat.reduceAdd, reduceCtorEq, Group.enc, Group.encC_all, Group.enc_0, Group.enc_1, Group.enc_2, Group.enc_3, Group.enc_4, Group.enc_all, Group.enc_len, List.getElem?_map, Option.map_some, List.length_map, map_clC, map_nmC, ei64_0, eu8_0, eL_0, step_ldt, ldtC_ownL, step_stt, sttC_ownL, chop_one, h1, h4, h5, h6, ha, hap, ih]
    simp only [kst, List.append_assoc, List.singleton_append]
set_option maxHeartbeats 4000000 in
theorem c16 {H : Heap} (t : Track) (h1 : t.segments.length ≤ 4096) (h2 : t.groups.length ≤ 4096) (h3 : ∀ k ∈ t.segments, k.pieces.length ≤ 4096) : callL tab ext 16 [.agg ((Track.enc t).map .d)] H = some (.agg ((Track.enc t).map .d), H) := by
  have hl := fun b0 b1 w1 => l16_0 (ext := ext) t.segments b0 b1 w1 H h1 h3 t.segments 0 [] rfl rfl
  have hl2 := fun b0 b1 w0 => l16_2 (ext := ext) t.groups b0 b1 w0 H h2 t.groups 0 [] rfl rfl
  simp only [nat_0, ownL_0, List.nil_append] at hl hl2
  rw [cl_16 rfl, B16]
  simp (maxSteps := 4000000) only [ go_sem, ↓reduceIte, Nat.reduceMul, Int.reduceLT, Int.reduceNeg, Int.reduceEq, Int.reduceLE, Int.reduceAdd, Int.reduceSub, Nat.reduceEqDiff, Nat.reduceLeDiff, Nat.reduceLT, Nat.reduceAdd, reduceCtorEq, Track.encC_all, Track.enc_0, Track.enc_1, Track.enc_all, Track.enc_len, List.getElem?_map, Option.map_some, List.length_map, map_clC, map_nmC, ei64_0, eu8_0, eL_0, hl, hl2]
  rfl

end
end Go.Ab
