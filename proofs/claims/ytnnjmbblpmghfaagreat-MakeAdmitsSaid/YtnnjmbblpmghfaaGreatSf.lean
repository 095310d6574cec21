/-
  What functions of the program come to.
  Conditions: none.
-/
import Derived.Test.YtnnjmbblpmghfaaGreatSe
set_option linter.unusedSimpArgs false
set_option linter.unusedVariables false
namespace Go.Ab
section
variable {ext : Callee}
def findL (id : Int) : Nat → List Group → Int
  | _, [] => -1
  | i, k :: r => if k.id = id then i else findL id (i + 1) r
theorem findL_cases (id : Int) (l : List Group) : ∀ (r : List Group) (i : Nat), l.drop i = r → findL id i r = -1 ∨ ∃ n g, findL id i r = (n : Nat) ∧ l[n]? = some g
  | [], i, h => Or.inl rfl
  | k :: r, i, h => by
    obtain ⟨h1, h2, h3⟩ := dr_cons h
    by_cases hk : k.id = id
    · exact Or.inr ⟨i, k, by simp [findL, hk], h1⟩
    · rw [show findL id i (k :: r) = findL id (i + 1) r by simp [findL, hk]]
      exact findL_cases id l r (i + 1) h3
set_option maxHeartbeats 4000000 in
theorem l27_0 (t : Track) (id : Int) (H : Heap) (hz : t.Sz) : ∀ (r : List Group) (i : Nat), t.groups.drop i = r →
    runL tab ext k27_0 ⟨(upd (upd (upd und 5 (.I i)) 2 (.c (.ptr (pid H 0) 0))) 1 (.I id)), hp H [⟨true, (Track.enc t).map .d⟩]⟩ =
    if findL id i r = -1 then some (.exit 0, ⟨und, hp H [⟨true, (Track.enc t).map .d⟩]⟩) else some (.ret, ⟨(upd und 4 (.I (findL id i r))), hp H [⟨true, (Track.enc t).map .d⟩]⟩)
  | [], i, hs => by
    have h0 := dr_end hs
    rw [s27_0, b27_0]
    simp (maxSteps := 4000000) only [ go_sem, ↓reduceIte, Nat.reduceMul, Int.reduceLT, Int.reduceNeg, Int.reduceEq, Int.reduceLE, Int.reduceAdd, Int.reduceSub, Nat.reduceEqDiff, Nat.reduceLeDiff, Nat.reduceLT, Nat.reduceAdd, reduceCtorEq, Track.encC_all, Track.enc_0, Track.enc_1, Track.enc_all, Track.enc_len, Group.encC_all, Group.enc_0, Group.enc_1, Group.enc_2, Group.enc_3, Group.enc_4, Group.enc_all, Group.enc_len, List.getElem?_map, Option.map_some, List.length_map, map_clC, map_nmC, ei64_0, eu8_0, eL_0, h0]
    simp only [findL, kst, if_true]
  | k :: r, i, hs => by
    obtain ⟨h1, h2, h3⟩ := dr_cons hs
    have ih := l27_0 t id H hz r (i + 1) h3
    have h4 := dr_lt h2
    have h5 := w64_inc h2 hz.grps
    have h6 : ¬ ((i : Int) = -1) := by omega
    rw [s27_0, b27_0]
    by_cases h : k.id = id
    · simp (maxSteps := 4000000) only [ go_sem, ↓reduceIte, Nat.reduceMul, Int.reduceLT, Int.reduceNeg, Int.reduceEq, Int.reduceLE, Int.reduceAdd, Int.reduceSub, Nat.reduceEqDiff, Nat.reduceLeDiff, Nat.reduceLT, Nat.reduceAdd, reduceCtorEq, Track.encC_all, Track.enc_0, Track.enc_1, Track.enc_all, Track.enc_len, Group.encC_all, Group.enc_0, Group.enc_1, Group.enc_2, Group.enc_3, Group.enc_4, Group.enc_all, Group.enc_len, List.getElem?_map, Option.map_some, List.length_map, map_clC, map_nmC, ei64_0, eu8_0, eL_0, h1, h4, h5, ih, h]
      simp only [findL, h, if_true, if_neg h6, kst]
    · simp (maxSteps := 4000000) only [ go_sem, ↓reduceIte, Nat.reduceMul, Int.reduceLT, Int.reduceNeg, Int.reduceEq, Int.reduceLE, Int.reduceAdd, Int.reduceSub, Nat.reduceEqDiff, Nat.reduceLeDiff, Nat.reduceLT, Nat.reduceAdd, reduceCtorEq, Track.encC_all, Track.enc_0, Track.enc_1, Track.enc_all, Track.enc_len, Group.encC_all, Group.enc_0, Group.enc_1, Group.enc_2, Group.enc_3, Group.enc_4, Group.enc_all, Group.enc_len, List.getElem?_map, Option.map_some, List.length_map, map_clC, map_nmC, ei64_0, eu8_0, eL_0, h1, h4, h5, ih, h]
      simp only [findL, h, if_false, kst]
set_option maxHeartbeats 4000000 in
theorem c27 {H : Heap} (t : Track) (id : Int) (hz : t.Sz) : callL tab ext 27 [.agg ((Track.enc t).map .d), .I id] H = some (.I (findL id 0 t.groups), H) := by
  have hl := l27_0 (ext := ext) t id H hz t.groups 0 rfl
  simp only [nat_0] at hl
  rw [cl_27 rfl, B27]
  simp (maxSteps := 4000000) only [go_sem, ↓reduceIte, Nat.reduceMul, Int.reduceLT, Int.reduceNeg, Int.reduceEq, Int.reduceLE, Int.reduceAdd, Int.reduceSub, Nat.reduceEqDiff, Nat.reduceLeDiff, Nat.reduceLT, Nat.reduceAdd, reduceCtorEq, Track.encC_all, Track.enc_0, Track.enc_1, Track.enc_all, Track.enc_len, List.getElem?_map, Option.map_some, List.length_map, map_clC, map_nmC, ei64_0, eu8_0, eL_0, hl]
  by_cases h : findL id 0 t.groups = -1 <;> simp [h]
def refNominal (t : Track) (s : RScript) (r : Read) : Int × Bool :=
  if findL r.group 0 t.groups < 0 then (0, false) else if r.index < 0 then (0, false) else if (s.route.length : Int) ≤ r.index then (0, false) else
  match s.route[r.index.toNat]?, t.groups[(findL r.group 0 t.groups).toNat]? with
  | some x, some g => if ¬ x = g.segment then (0, false) else (w64 (startGo t 0 (s.route.take r.index.toNat) + g.offset), true)
  | _, _ => (0, false)
set_option maxHeartbeats 4000000 in
theorem c89 {H : Heap} (t : Track) (s : RScript) (cy ix gr pt : Int) (hz : t.Sz) (hin : InT t s.route) (hn : s.route.length < 2 ^ 63) : callL tab ext 89 [.agg ((Track.enc t).map .d), .agg ((RScript.enc s).map .d), .agg [J cy, J ix, J gr, J pt]] H = some (.tup [.I (refNominal t s ⟨cy, ix, gr, pt⟩).1, .B (refNominal t s ⟨cy, ix, gr, pt⟩).2], H) := by
  have hf := fun H => c27 (ext := ext) (H := H) t gr hz
  rw [cl_89 rfl, B89]
  rcases findL_cases gr t.groups t.groups 0 rfl with h2 | ⟨m, g, h2, hg⟩
  · rw [h2] at hf
    simp (maxSteps := 4000000) only [↓r89_2, ↓r89_4,  go_sem, ↓reduceIte, Nat.reduceMul, Int.reduceLT, Int.reduceNeg, Int.reduceEq, Int.reduceLE, Int.reduceAdd, Int.reduceSub, Nat.reduceEqDiff, Nat.reduceLeDiff, Nat.reduceLT, Nat.reduceAdd, reduceCtorEq, Track.encC_all, Track.enc_0, Track.enc_1, Track.enc_all, Track.enc_len, RScript.encC_all, RScript.enc_0, RScript.enc_1, RScript.enc_2, RScript.enc_3, RScript.enc_4, RScript.enc_5, RScript.enc_6, RScript.enc_7, RScript.enc_8, RScript.enc_all, RScript.enc_len, RScript.subC_3_2, RScript.subC_5_2, RScript.sub_3_2, RScript.sub_5_2, Read.enc, Read.encC_all, Read.enc_0, Read.enc_1, Read.enc_2, Read.enc_3, Read.enc_all, Read.enc_len, List.getElem?_map, Option.map_some, List.length_map, map_clC, map_nmC, ei64_0, eu8_0, eL_0, hf]
    simp only [refNominal, h2]
    all_goals ((repeat' (first | with_reducible rfl | with_reducible contradiction | split)) <;> (first | with_reducible rfl | (simp_all; done) | (simp_all; omega) | omega))
  · rw [h2] at hf
    rcases seg_cases s.route.length ix with h | ⟨h, h'⟩ | ⟨n, rfl, h⟩
    · simp (maxSteps := 4000000) only [↓r89_2, ↓r89_4,  go_sem, ↓reduceIte, Nat.reduceMul, Int.reduceLT, Int.reduceNeg, Int.reduceEq, Int.reduceLE, Int.reduceAdd, Int.reduceSub, Nat.reduceEqDiff, Nat.reduceLeDiff, Nat.reduceLT, Nat.reduceAdd, reduceCtorEq, Track.encC_all, Track.enc_0, Track.enc_1, Track.enc_all, Track.enc_len, RScript.encC_all, RScript.enc_0, RScript.enc_1, RScript.enc_2, RScript.enc_3, RScript.enc_4, RScript.enc_5, RScript.enc_6, RScript.enc_7, RScript.enc_8, RScript.enc_all, RScript.enc_len, RScript.subC_3_2, RScript.subC_5_2, RScript.sub_3_2, RScript.sub_5_2, Read.enc, Read.encC_all, Read.enc_0, Read.enc_1, Read.enc_2, Read.enc_3, Read.enc_all, Read.enc_len, List.getElem?_map, Option.map_some, List.length_map, map_clC, map_nmC, ei64_0, eu8_0, eL_0, hf, nat_neg, h]
      simp only [refNominal, h2, nat_neg, h]
      all_goals ((repeat' (first | with_reducible rfl | with_reducible contradiction | split)) <;> (first | with_reducible rfl | (simp_all; done) | (simp_all; omega) | omega))
    · simp (maxSteps := 4000000) only [↓r89_2, ↓r89_4,  go_sem, ↓reduceIte, Nat.reduceMul, Int.reduceLT, Int.reduceNeg, Int.reduceEq, Int.reduceLE, Int.reduceAdd, Int.reduceSub, Nat.reduceEqDiff, Nat.reduceLeDiff, Nat.reduceLT, Nat.reduceAdd, reduceCtorEq, Track.encC_all, Track.enc_0, Track.enc_1, Track.enc_all, Track.enc_len, RScript.encC_all, RScript.enc_0, RScript.enc_1, RScript.enc_2, RScript.enc_3, RScript.enc_4, RScript.enc_5, RScript.enc_6, RScript.enc_7, RScript.enc_8, RScript.enc_all, RScript.enc_len, RScript.subC_3_2, RScript.subC_5_2, RScript.sub_3_2, RScript.sub_5_2, Read.enc, Read.encC_all, Read.enc_0, Read.enc_1, Read.enc_2, Read.enc_3, Read.enc_all, Read.enc_len, List.getElem?_map, Option.map_some, List.length_map, map_clC, map_nmC, ei64_0, eu8_0, eL_0, hf, nat_neg, h, h']
      simp only [refNominal, h2, nat_neg, h, h']
      all_goals ((repeat' (first | with_reducible rfl | with_reducible contradiction | split)) <;> (first | with_reducible rfl | (simp_all; done) | (simp_all; omega) | omega))
    · obtain ⟨x, hx⟩ := get_ex h
      have hs := fun H => c104 (ext := ext) (H := H) t s.route n (hin.take n) hn (by omega)
      simp (maxSteps := 4000000) only [↓r89_2, ↓r89_4,  go_sem, ↓reduceIte, Nat.reduceMul, Int.reduceLT, Int.reduceNeg, Int.reduceEq, Int.reduceLE, Int.reduceAdd, Int.reduceSub, Nat.reduceEqDiff, Nat.reduceLeDiff, Nat.reduceLT, Nat.reduceAdd, reduceCtorEq, Track.encC_all, Track.enc_0, Track.enc_1, Track.enc_all, Track.enc_len, RScript.encC_all, RScript.enc_0, RScript.enc_1, RScript.enc_2, RScript.enc_3, RScript.enc_4, RScript.enc_5, RScript.enc_6, RScript.enc_7, RScript.enc_8, RScript.enc_all, RScript.enc_len, RScript.subC_3_2, RScript.subC_5_2, RScript.sub_3_2, RScript.sub_5_2, Group.encC_all, Group.enc_0, Group.enc_1, Group.enc_2, Group.enc_3, Group.enc_4, Group.enc_all, Group.enc_len, Read.enc, Read.encC_all, Read.enc_0, Read.enc_1, Read.enc_2, Read.enc_3, Read.enc_all, Read.enc_len, List.getElem?_map, Option.map_some, List.length_map, map_clC, map_nmC, ei64_0, eu8_0, eL_0, hf, nat_neg, len_le h, hg, hx, hs]
      simp only [refNominal, h2, nat_neg, len_le h, Int.toNat_natCast, hx, hg]
      all_goals ((repeat' (first | with_reducible rfl | with_reducible contradiction | split)) <;> (first | with_reducible rfl | (simp_all; done) | (simp_all; omega) | omega))
def atGo : Int → List RTick → Int
  | a, [] => a
  | a, k :: r => atGo (w64 (a + k.v)) r
set_option maxHeartbeats 4000000 in
theorem l90_0 (s : RScript) (n : Nat) (H : Heap) (hle : n ≤ s.ticks.length) (hn : s.ticks.length < 2 ^ 63) : ∀ (r : List RTick) (i : Nat) (a : Int), (s.ticks.take n).drop i = r →
    runL tab ext k90_0 ⟨(upd (upd (upd (upd und 6 (.I i)) 5 (.I a)) 2 (.c (.ptr (pid H 0) 0))) 1 (.I n)), hp H [⟨true, (RScript.enc s).map .d⟩]⟩ =
    some (.exit 0, ⟨(upd und 5 (.I (atGo a r))), hp H [⟨true, (RScript.enc s).map .d⟩]⟩)
  | [], i, a, hs => by
    have h0 : ((i : Int) < (n : Int)) = False := by
      have := dr_end hs; simp only [List.length_take, Nat.min_eq_left hle] at this; exact this
    rw [s90_0, b90_0]
    simp (maxSteps := 4000000) only [ go_sem, ↓reduceIte, Nat.reduceMul, Int.reduceLT, Int.reduceNeg, Int.reduceEq, Int.reduceLE, Int.reduceAdd, Int.reduceSub, Nat.reduceEqDiff, Nat.reduceLeDiff, Nat.reduceLT, Nat.reduceAdd, reduceCtorEq, RScript.encC_all, RScript.enc_0, RScript.enc_1, RScript.enc_2, RScript.enc_3, RScript.enc_4, RScript.enc_5, RScript.enc_6, RScript.enc_7, RScript.enc_8, RScript.enc_all, RScript.enc_len, RScript.subC_3_2, RScript.subC_5_2, RScript.sub_3_2, RScript.sub_5_2, RTick.encC_all, RTick.enc_0, RTick.enc_1, RTick.enc_10, RTick.enc_2, RTick.enc_3, RTick.enc_4, RTick.enc_5, RTick.enc_6, RTick.enc_7, RTick.enc_8, RTick.enc_9, RTick.enc_all, RTick.enc_len, RTick.subC_1_2, RTick.subC_5_4, RTick.sub_1_2, RTick.sub_5_4, List.getElem?_map, Option.map_some, List.length_map, map_clC, map_nmC, ei64_0, eu8_0, eL_0, h0]
    simp only [atGo, kst]
  | k :: r, i, a, hs => by
    obtain ⟨h1, h2, h3⟩ := dr_cons hs
    simp only [List.length_take, Nat.min_eq_left hle] at h2
    have h1 := take_get h1
    have ih := fun a => l90_0 s n H hle hn r (i + 1) a h3
    have h4 := dr_lt h2
    have h5 := w64_inc h2 (by omega)
    rw [s90_0, b90_0]
    simp (maxSteps := 4000000) only [ go_sem, ↓reduceIte, Nat.reduceMul, Int.reduceLT, Int.reduceNeg, Int.reduceEq, Int.reduceLE, Int.reduceAdd, Int.reduceSub, Nat.reduceEqDiff, Nat.reduceLeDiff, Nat.reduceLT, Nat.reduceAdd, reduceCtorEq, RScript.encC_all, RScript.enc_0, RScript.enc_1, RScript.enc_2, RScript.enc_3, RScript.enc_4, RScript.enc_5, RScript.enc_6, RScript.enc_7, RScript.enc_8, RScript.enc_all, RScript.enc_len, RScript.subC_3_2, RScript.subC_5_2, RScript.sub_3_2, RScript.sub_5_2, RTick.encC_all, RTick.enc_0, RTick.enc_1, RTick.enc_10, RTick.enc_2, RTick.enc_3, RTick.enc_4, RTick.enc_5, RTick.enc_6, RTick.enc_7, RTick.enc_8, RTick.enc_9, RTick.enc_all, RTick.enc_len, RTick.subC_1_2, RTick.subC_5_4, RTick.sub_1_2, RTick.sub_5_4, List.getElem?_map, Option.map_some, List.length_map, map_clC, map_nmC, ei64_0, eu8_0, eL_0, h1, h4, h5, ih]
    simp only [atGo, kst]
def refAt (s : RScript) (n : Nat) : Int := atGo s.start (s.ticks.take n)
set_option maxHeartbeats 4000000 in
theorem c90 {H : Heap} (s : RScript) (n : Nat) (hle : n ≤ s.ticks.length) (hn : s.ticks.length < 2 ^ 63) : callL tab ext 90 [.agg ((RScript.enc s).map .d), .I n] H = some (.I (refAt s n), H) := by
  have hl := fun a => l90_0 (ext := ext) s n H hle hn (s.ticks.take n) 0 a rfl
  simp only [nat_0] at hl
  rw [cl_90 rfl, B90]
  simp (maxSteps := 4000000) only [ go_sem, ↓reduceIte, Nat.reduceMul, Int.reduceLT, Int.reduceNeg, Int.reduceEq, Int.reduceLE, Int.reduceAdd, Int.reduceSub, Nat.reduceEqDiff, Nat.reduceLeDiff, Nat.reduceLT, Nat.reduceAdd, reduceCtorEq, RScript.encC_all, RScript.enc_0, RScript.enc_1, RScript.enc_2, RScript.enc_3, RScript.enc_4, RScript.enc_5, RScript.enc_6, RScript.enc_7, RScript.enc_8, RScript.enc_all, RScript.enc_len, RScript.subC_3_2, RScript.subC_5_2, RScript.sub_3_2, RScript.sub_5_2, List.getElem?_map, Option.map_some, List.length_map, map_clC, map_nmC, ei64_0, eu8_0, eL_0, hl]
  simp only [refAt]

end
end Go.Ab
namespace Go.Ab
section
variable {ext : Callee}
def refRead (c : Config) (t : Track) (s : RScript) (r : Read) : Bool :=
  if (refNominal t s r).2 = false then false else match t.groups[(findL r.group 0 t.groups).toNat]? with
    | some g => if (if refAt s (r.cycle.toNat + 1) < refAt s r.cycle.toNat then refAt s (r.cycle.toNat + 1) else refAt s r.cycle.toNat) ≤ r.point then
        (if r.point ≤ (if refAt s (r.cycle.toNat + 1) > refAt s r.cycle.toNat then refAt s (r.cycle.toNat + 1) else refAt s r.cycle.toNat) then !(far (w64 (r.point - (refNominal t s r).1)) (w64 (g.acc + c.antenna))) else false) else false
    | none => false
theorem refNominal_find {t : Track} {s : RScript} {r : Read} (h : (refNominal t s r).2 = true) : ∃ n g, findL r.group 0 t.groups = (n : Nat) ∧ t.groups[n]? = some g := by
  rcases findL_cases r.group t.groups t.groups 0 rfl with h2 | h2
  · simp [refNominal, h2] at h
  · exact h2
set_option maxHeartbeats 8000000 in
theorem c106 {H : Heap} (c : Config) (t : Track) (s : RScript) (m : Nat) (ix gr pt : Int) (hz : t.Sz) (hin : InT t s.route) (hn : s.route.length < 2 ^ 63) (hm : m < s.ticks.length) (hk : s.ticks.length < 2 ^ 63) : callL tab ext 106 [.agg ((Config.enc c).map .d), .agg ((Track.enc t).map .d), .agg ((RScript.enc s).map .d), .agg [J m, J ix, J gr, J pt]] H = some (.B (refRead c t s ⟨m, ix, gr, pt⟩), H) := by
  have hno := fun H => c89 (ext := ext) (H := H) t s m ix gr pt hz hin hn
  have hf := fun H => c27 (ext := ext) (H := H) t gr hz
  have ha := fun H => c90 (ext := ext) (H := H) s m (by omega) hk
  have hb := fun H => c90 (ext := ext) (H := H) s (m + 1) (by omega) hk
  have h5 := w64_inc hm hk
  rw [cl_106 rfl, B106]
  by_cases h2 : (refNominal t s ⟨m, ix, gr, pt⟩).2 = true
  · obtain ⟨n, g, h3, hg⟩ := refNominal_find h2
    have h3' : findL gr 0 t.groups = (n : Int) := h3
    rw [h3'] at hf
    simp (maxSteps := 4000000) only [↓r106_6,  go_sem, ↓reduceIte, Nat.reduceMul, Int.reduceLT, Int.reduceNeg, Int.reduceEq, Int.reduceLE, Int.reduceAdd, Int.reduceSub, Nat.reduceEqDiff, Nat.reduceLeDiff, Nat.reduceLT, Nat.reduceAdd, reduceCtorEq, Config.encC_all, Config.enc_0, Config.enc_1, Config.enc_10, Config.enc_11, Config.enc_12, Config.enc_13, Config.enc_2, Config.enc_3, Config.enc_4, Config.enc_5, Config.enc_6, Config.enc_7, Config.enc_8, Config.enc_9, Config.enc_all, Config.enc_len, Track.encC_all, Track.enc_0, Track.enc_1, Track.enc_all, Track.enc_len, RScript.encC_all, RScript.enc_0, RScript.enc_1, RScript.enc_2, RScript.enc_3, RScript.enc_4, RScript.enc_5, RScript.enc_6, RScript.enc_7, RScript.enc_8, RScript.enc_all, RScript.enc_len, RScript.subC_3_2, RScript.subC_5_2, RScript.sub_3_2, RScript.sub_5_2, Read.enc, Read.encC_all, Read.enc_0, Read.enc_1, Read.enc_2, Read.enc_3, Read.enc_all, Read.enc_len, Group.enc, Group.encC_all, Group.enc_0, Group.enc_1, Group.enc_2, Group.enc_3, Group.enc_4, Group.enc_all, Group.enc_len, List.getElem?_map, Option.map_some, List.length_map, map_clC, map_nmC, ei64_0, eu8_0, eL_0, hno, h2, ha, hb, h5, hf, hg, c77]
    simp only [refRead, h2, h3', Int.toNat_natCast, hg, Bool.true_eq_false, if_false]
    all_goals ((repeat' (first | with_reducible rfl | with_reducible contradiction | split)) <;> (first | with_reducible rfl | (simp_all; done) | (simp_all; omega) | omega))
  · have h2 : (refNominal t s ⟨m, ix, gr, pt⟩).2 = false := by simpa using h2
    simp (maxSteps := 4000000) only [go_sem, ↓reduceIte, Nat.reduceMul, Int.reduceLT, Int.reduceNeg, Int.reduceEq, Int.reduceLE, Int.reduceAdd, Int.reduceSub, Nat.reduceEqDiff, Nat.reduceLeDiff, Nat.reduceLT, Nat.reduceAdd, reduceCtorEq, Config.encC_all, Config.enc_0, Config.enc_1, Config.enc_10, Config.enc_11, Config.enc_12, Config.enc_13, Config.enc_2, Config.enc_3, Config.enc_4, Config.enc_5, Config.enc_6, Config.enc_7, Config.enc_8, Config.enc_9, Config.enc_all, Config.enc_len, Track.encC_all, Track.enc_0, Track.enc_1, Track.enc_all, Track.enc_len, RScript.encC_all, RScript.enc_0, RScript.enc_1, RScript.enc_2, RScript.enc_3, RScript.enc_4, RScript.enc_5, RScript.enc_6, RScript.enc_7, RScript.enc_8, RScript.enc_all, RScript.enc_len, RScript.subC_3_2, RScript.subC_5_2, RScript.sub_3_2, RScript.sub_5_2, Read.enc, Read.encC_all, Read.enc_0, Read.enc_1, Read.enc_2, Read.enc_3, Read.enc_all, Read.enc_len, List.getElem?_map, Option.map_some, List.length_map, map_clC, map_nmC, ei64_0, eu8_0, eL_0, hno, h2]
    simp only [refRead, h2, if_true]
def refReadBad (n : Nat) (q : Option Read) (k : Read) : Bool := if k.cycle < 0 then true else if (n : Int) ≤ k.cycle then true else match q with
  | some z => decide (k.cycle ≤ z.cycle)
  | none => false
def refReadsGo (c : Config) (t : Track) (s : RScript) : Option Read → List Read → Bool
  | _, [] => true
  | q, k :: r => if refReadBad s.ticks.length q k = true then false else if refRead c t s k = true then refReadsGo c t s (some k) r else false
set_option maxHeartbeats 8000000 in
theorem l57_0 (c : Config) (t : Track) (s : RScript) (H : Heap) (hz : t.Sz) (hin : InT t s.route) (hn : s.route.length < 2 ^ 63) (hk : s.ticks.length < 2 ^ 63) (hr : s.reads.length < 2 ^ 63) : ∀ (r : List Read) (i : Nat) (q : Option Read), s.reads.drop i = r → q = prevOf s.reads i →
    runL tab ext k57_0 ⟨(upd (upd (upd (upd und 7 (.I i)) 5 (.c (.ptr (pid H 2) 0))) 4 (.c (.ptr (pid H 1) 0))) 3 (.c (.ptr (pid H 0) 0))), hp H [⟨true, (Config.enc c).map .d⟩, ⟨true, (Track.enc t).map .d⟩, ⟨true, (RScript.enc s).map .d⟩]⟩ =
    if refReadsGo c t s q r = true then some (.exit 0, ⟨und, hp H [⟨true, (Config.enc c).map .d⟩, ⟨true, (Track.enc t).map .d⟩, ⟨true, (RScript.enc s).map .d⟩]⟩) else some (.ret, ⟨(upd und 6 (.B false)), hp H [⟨true, (Config.enc c).map .d⟩, ⟨true, (Track.enc t).map .d⟩, ⟨true, (RScript.enc s).map .d⟩]⟩)
  | [], i, q, hs, hq => by
    have h0 := dr_end hs
    rw [s57_0, b57_0]
    simp (maxSteps := 4000000) only [↓r57_5,  go_sem, ↓reduceIte, Nat.reduceMul, Int.reduceLT, Int.reduceNeg, Int.reduceEq, Int.reduceLE, Int.reduceAdd, Int.reduceSub, Nat.reduceEqDiff, Nat.reduceLeDiff, Nat.reduceLT, Nat.reduceAdd, reduceCtorEq, Config.encC_all, Config.enc_0, Config.enc_1, Config.enc_10, Config.enc_11, Config.enc_12, Config.enc_13, Config.enc_2, Config.enc_3, Config.enc_4, Config.enc_5, Config.enc_6, Config.enc_7, Config.enc_8, Config.enc_9, Config.enc_all, Config.enc_len, Track.encC_all, Track.enc_0, Track.enc_1, Track.enc_all, Track.enc_len, RScript.encC_all, RScript.enc_0, RScript.enc_1, RScript.enc_2, RScript.enc_3, RScript.enc_4, RScript.enc_5, RScript.enc_6, RScript.enc_7, RScript.enc_8, RScript.enc_all, RScript.enc_len, RScript.subC_3_2, RScript.subC_5_2, RScript.sub_3_2, RScript.sub_5_2, Read.enc, Read.encC_all, Read.enc_0, Read.enc_1, Read.enc_2, Read.enc_3, Read.enc_all, Read.enc_len, List.getElem?_map, Option.map_some, List.length_map, map_clC, map_nmC, ei64_0, eu8_0, eL_0, h0]
    simp only [refReadsGo, kst, if_true]
  | ⟨cy, ix, gr, pt⟩ :: r, i, q, hs, hq => by
    obtain ⟨h1, h2, h3⟩ := dr_cons hs
    have ih := l57_0 c t s H hz hin hn hk hr r (i + 1) (some ⟨cy, ix, gr, pt⟩) h3 h1.symm
    subst hq
    have h4 := dr_lt h2
    have h5 := w64_inc h2 hr
    rw [s57_0, b57_0]
    rcases seg_cases s.ticks.length cy with g | ⟨g, g'⟩ | ⟨m, rfl, g'⟩
    · have hb : refReadBad s.ticks.length (prevOf s.reads i) ⟨cy, ix, gr, pt⟩ = true := by simp [refReadBad, g]
      simp (maxSteps := 4000000) only [↓r57_5,  go_sem, ↓reduceIte, Nat.reduceMul, Int.reduceLT, Int.reduceNeg, Int.reduceEq, Int.reduceLE, Int.reduceAdd, Int.reduceSub, Nat.reduceEqDiff, Nat.reduceLeDiff, Nat.reduceLT, Nat.reduceAdd, reduceCtorEq, Config.encC_all, Config.enc_0, Config.enc_1, Config.enc_10, Config.enc_11, Config.enc_12, Config.enc_13, Config.enc_2, Config.enc_3, Config.enc_4, Config.enc_5, Config.enc_6, Config.enc_7, Config.enc_8, Config.enc_9, Config.enc_all, Config.enc_len, Track.encC_all, Track.enc_0, Track.enc_1, Track.enc_all, Track.enc_len, RScript.encC_all, RScript.enc_0, RScript.enc_1, RScript.enc_2, RScript.enc_3, RScript.enc_4, RScript.enc_5, RScript.enc_6, RScript.enc_7, RScript.enc_8, RScript.enc_all, RScript.enc_len, RScript.subC_3_2, RScript.subC_5_2, RScript.sub_3_2, RScript.sub_5_2, Read.enc, Read.encC_all, Read.enc_0, Read.enc_1, Read.enc_2, Read.enc_3, Read.enc_all, Read.enc_len, List.getElem?_map, Option.map_some, List.length_map, map_clC, map_nmC, ei64_0, eu8_0, eL_0, h1, h4, g]
      simp only [refReadsGo, hb, if_true, kst, Bool.false_eq_true, if_false]
    · have hb : refReadBad s.ticks.length (prevOf s.reads i) ⟨cy, ix, gr, pt⟩ = true := by simp [refReadBad, g, g']
      simp (maxSteps := 4000000) only [↓r57_5,  go_sem, ↓reduceIte, Nat.reduceMul, Int.reduceLT, Int.reduceNeg, Int.reduceEq, Int.reduceLE, Int.reduceAdd, Int.reduceSub, Nat.reduceEqDiff, Nat.reduceLeDiff, Nat.reduceLT, Nat.reduceAdd, reduceCtorEq, Config.encC_all, Config.enc_0, Config.enc_1, Config.enc_10, Config.enc_11, Config.enc_12, Config.enc_13, Config.enc_2, Config.enc_3, Config.enc_4, Config.enc_5, Config.enc_6, Config.enc_7, Config.enc_8, Config.enc_9, Config.enc_all, Config.enc_len, Track.encC_all, Track.enc_0, Track.enc_1, Track.enc_all, Track.enc_len, RScript.encC_all, RScript.enc_0, RScript.enc_1, RScript.enc_2, RScript.enc_3, RScript.enc_4, RScript.enc_5, RScript.enc_6, RScript.enc_7, RScript.enc_8, RScript.enc_all, RScript.enc_len, RScript.subC_3_2, RScript.subC_5_2, RScript.sub_3_2, RScript.sub_5_2, Read.enc, Read.encC_all, Read.enc_0, Read.enc_1, Read.enc_2, Read.enc_3, Read.enc_all, Read.enc_len, List.getElem?_map, Option.map_some, List.length_map, map_clC, map_nmC, ei64_0, eu8_0, eL_0, h1, h4, g, g']
      simp only [refReadsGo, hb, if_true, kst, Bool.false_eq_true, if_false]
    · have hg := fun H => c106 (ext := ext) (H := H) c t s m ix gr pt hz hin hn g' hk
      cases i with
      | zero =>
        have hb : refReadBad s.ticks.length (prevOf s.reads 0) ⟨m, ix, gr, pt⟩ = false := by simp [refReadBad, prevOf]; omega
        simp only [nat_0, Nat.zero_add, nat_1] at h4 h5 ih ⊢
        simp (maxSteps := 4000000) only [↓r57_5,  go_sem, ↓reduceIte, Nat.reduceMul, Int.reduceLT, Int.reduceNeg, Int.reduceEq, Int.reduceLE, Int.reduceAdd, Int.reduceSub, Nat.reduceEqDiff, Nat.reduceLeDiff, Nat.reduceLT, Nat.reduceAdd, reduceCtorEq, Config.encC_all, Config.enc_0, Config.enc_1, Config.enc_10, Config.enc_11, Config.enc_12, Config.enc_13, Config.enc_2, Config.enc_3, Config.enc_4, Config.enc_5, Config.enc_6, Config.enc_7, Config.enc_8, Config.enc_9, Config.enc_all, Config.enc_len, Track.encC_all, Track.enc_0, Track.enc_1, Track.enc_all, Track.enc_len, RScript.encC_all, RScript.enc_0, RScript.enc_1, RScript.enc_2, RScript.enc_3, RScript.enc_4, RScript.enc_5, RScript.enc_6, RScript.enc_7, RScript.enc_8, RScript.enc_all, RScript.enc_len, RScript.subC_3_2, RScript.subC_5_2, RScript.sub_3_2, RScript.sub_5_2, Read.enc, Read.encC_all, Read.enc_0, Read.enc_1, Read.enc_2, Read.enc_3, Read.enc_all, Read.enc_len, List.getElem?_map, Option.map_some, List.length_map, map_clC, map_nmC, ei64_0, eu8_0, eL_0, h1, h4, h5, nat_neg, len_le g', hg, ih]
        simp only [refReadsGo, hb, kst, Bool.false_eq_true, if_false]
        by_cases hx : refRead c t s ⟨m, ix, gr, pt⟩ = true <;> simp [hx]
      | succ j =>
        have h6 := w64_dec h2 hr
        obtain ⟨z, h7⟩ := get_ex (l := s.reads) (n := j) (by omega)
        by_cases hz' : (m : Int) ≤ z.cycle
        · have hb : refReadBad s.ticks.length (prevOf s.reads (j + 1)) ⟨m, ix, gr, pt⟩ = true := by
            simp only [refReadBad, prevOf, h7]; simp [hz']
          simp (maxSteps := 4000000) only [↓r57_5,  go_sem, ↓reduceIte, Nat.reduceMul, Int.reduceLT, Int.reduceNeg, Int.reduceEq, Int.reduceLE, Int.reduceAdd, Int.reduceSub, Nat.reduceEqDiff, Nat.reduceLeDiff, Nat.reduceLT, Nat.reduceAdd, reduceCtorEq, Config.encC_all, Config.enc_0, Config.enc_1, Config.enc_10, Config.enc_11, Config.enc_12, Config.enc_13, Config.enc_2, Config.enc_3, Config.enc_4, Config.enc_5, Config.enc_6, Config.enc_7, Config.enc_8, Config.enc_9, Config.enc_all, Config.enc_len, Track.encC_all, Track.enc_0, Track.enc_1, Track.enc_all, Track.enc_len, RScript.encC_all, RScript.enc_0, RScript.enc_1, RScript.enc_2, RScript.enc_3, RScript.enc_4, RScript.enc_5, RScript.enc_6, RScript.enc_7, RScript.enc_8, RScript.enc_all, RScript.enc_len, RScript.subC_3_2, RScript.subC_5_2, RScript.sub_3_2, RScript.sub_5_2, Read.enc, Read.encC_all, Read.enc_0, Read.enc_1, Read.enc_2, Read.enc_3, Read.enc_all, Read.enc_len, List.getElem?_map, Option.map_some, List.length_map, map_clC, map_nmC, ei64_0, eu8_0, eL_0, h1, h4, h5, nat_neg, len_le g', h6, h7, pos_succ, hz']
          simp only [refReadsGo, hb, if_true, kst, Bool.false_eq_true, if_false]
        · have hb : refReadBad s.ticks.length (prevOf s.reads (j + 1)) ⟨m, ix, gr, pt⟩ = false := by
            simp only [refReadBad, prevOf, h7]; simp [hz']; omega
          simp (maxSteps := 4000000) only [↓r57_5,  go_sem, ↓reduceIte, Nat.reduceMul, Int.reduceLT, Int.reduceNeg, Int.reduceEq, Int.reduceLE, Int.reduceAdd, Int.reduceSub, Nat.reduceEqDiff, Nat.reduceLeDiff, Nat.reduceLT, Nat.reduceAdd, reduceCtorEq, Config.encC_all, Config.enc_0, Config.enc_1, Config.enc_10, Config.enc_11, Config.enc_12, Config.enc_13, Config.enc_2, Config.enc_3, Config.enc_4, Config.enc_5, Config.enc_6, Config.enc_7, Config.enc_8, Config.enc_9, Config.enc_all, Config.enc_len, Track.encC_all, Track.enc_0, Track.enc_1, Track.enc_all, Track.enc_len, RScript.encC_all, RScript.enc_0, RScript.enc_1, RScript.enc_2, RScript.enc_3, RScript.enc_4, RScript.enc_5, RScript.enc_6, RScript.enc_7, RScript.enc_8, RScript.enc_all, RScript.enc_len, RScript.subC_3_2, RScript.subC_5_2, RScript.sub_3_2, RScript.sub_5_2, Read.enc, Read.encC_all, Read.enc_0, Read.enc_1, Read.enc_2, Read.enc_3, Read.enc_all, Read.enc_len, List.getElem?_map, Option.map_some, List.length_map, map_clC, map_nmC, ei64_0, eu8_0, eL_0, h1, h4, h5, nat_neg, len_le g', h6, h7, pos_succ, hz', hg, ih]
          simp only [refReadsGo, hb, kst, Bool.false_eq_true, if_false]
          by_cases hx : refRead c t s ⟨m, ix, gr, pt⟩ = true <;> simp [hx]

end
end Go.Ab
namespace Go.Ab
section
variable {ext : Callee}
def refReads (c : Config) (t : Track) (s : RScript) : Bool := refReadsGo c t s none s.reads
set_option maxHeartbeats 4000000 in
theorem c57 {H : Heap} (c : Config) (t : Track) (s : RScript) (hz : t.Sz) (hin : InT t s.route) (hn : s.route.length < 2 ^ 63) (hk : s.ticks.length < 2 ^ 63) (hr : s.reads.length < 2 ^ 63) : callL tab ext 57 [.agg ((Config.enc c).map .d), .agg ((Track.enc t).map .d), .agg ((RScript.enc s).map .d)] H = some (.B (refReads c t s), H) := by
  have hl := l57_0 (ext := ext) c t s H hz hin hn hk hr s.reads 0 none rfl rfl
  simp only [nat_0] at hl
  rw [cl_57 rfl, B57]
  simp (maxSteps := 4000000) only [↓r57_5,  go_sem, ↓reduceIte, Nat.reduceMul, Int.reduceLT, Int.reduceNeg, Int.reduceEq, Int.reduceLE, Int.reduceAdd, Int.reduceSub, Nat.reduceEqDiff, Nat.reduceLeDiff, Nat.reduceLT, Nat.reduceAdd, reduceCtorEq, Config.encC_all, Config.enc_0, Config.enc_1, Config.enc_10, Config.enc_11, Config.enc_12, Config.enc_13, Config.enc_2, Config.enc_3, Config.enc_4, Config.enc_5, Config.enc_6, Config.enc_7, Config.enc_8, Config.enc_9, Config.enc_all, Config.enc_len, Track.encC_all, Track.enc_0, Track.enc_1, Track.enc_all, Track.enc_len, RScript.encC_all, RScript.enc_0, RScript.enc_1, RScript.enc_2, RScript.enc_3, RScript.enc_4, RScript.enc_5, RScript.enc_6, RScript.enc_7, RScript.enc_8, RScript.enc_all, RScript.enc_len, RScript.subC_3_2, RScript.subC_5_2, RScript.sub_3_2, RScript.sub_5_2, List.getElem?_map, Option.map_some, List.length_map, map_clC, map_nmC, ei64_0, eu8_0, eL_0, hl]
  simp only [refReads]
  all_goals ((repeat' (first | with_reducible rfl | with_reducible contradiction | split)) <;> (first | with_reducible rfl | (simp_all; done) | (simp_all; omega) | omega))
set_option maxHeartbeats 4000000 in
theorem c147 {H : Heap} (x : Int) : callL tab ext 147 [.I x] H = some (.I (sizeK x), H) := by
  rw [cl_147 rfl, B147]
  by_cases h1 : x < 1
  · have hs : sizeK x = 0 := by unfold sizeK; repeat' split
                                all_goals omega
    simp (maxSteps := 4000000) only [go_sem, ↓reduceIte, Nat.reduceMul, Int.reduceLT, Int.reduceNeg, Int.reduceEq, Int.reduceLE, Int.reduceAdd, Int.reduceSub, Nat.reduceEqDiff, Nat.reduceLeDiff, Nat.reduceLT, Nat.reduceAdd, reduceCtorEq, List.getElem?_map, Option.map_some, List.length_map, map_clC, map_nmC, ei64_0, eu8_0, eL_0, h1]
    simp only [hs]
  · by_cases h2 : 5 < x
    · have hs : sizeK x = 0 := by unfold sizeK; repeat' split
                                  all_goals omega
      simp (maxSteps := 4000000) only [go_sem, ↓reduceIte, Nat.reduceMul, Int.reduceLT, Int.reduceNeg, Int.reduceEq, Int.reduceLE, Int.reduceAdd, Int.reduceSub, Nat.reduceEqDiff, Nat.reduceLeDiff, Nat.reduceLT, Nat.reduceAdd, reduceCtorEq, List.getElem?_map, Option.map_some, List.length_map, map_clC, map_nmC, ei64_0, eu8_0, eL_0, h1, h2]
      simp only [hs]
    · obtain rfl | rfl | rfl | rfl | rfl : x = 1 ∨ x = 2 ∨ x = 3 ∨ x = 4 ∨ x = 5 := by omega
      all_goals simp (maxSteps := 4000000) only [go_sem, ↓reduceIte, Nat.reduceMul, Int.reduceLT, Int.reduceNeg, Int.reduceEq, Int.reduceLE, Int.reduceAdd, Int.reduceSub, Nat.reduceEqDiff, Nat.reduceLeDiff, Nat.reduceLT, Nat.reduceAdd, reduceCtorEq, List.getElem?_map, Option.map_some, List.length_map, map_clC, map_nmC, ei64_0, eu8_0, eL_0]
      all_goals rfl
def p2 (i : Nat) : Int := ((2 ^ i : Nat) : Int)
theorem p2_0 (i : Nat) : (p2 i = 0) = False := by
  have : 0 < 2 ^ i := Nat.two_pow_pos i
  simp only [eq_iff_iff, iff_false, p2]
  generalize 2 ^ i = z at *
  omega
theorem p2_s {i : Nat} (h : i < 16) : w64 (2 * p2 i) = p2 (i + 1) := by
  have h1 : 2 ^ i ≤ 2 ^ 16 := Nat.pow_le_pow_right (by omega) (by omega)
  have h2 : p2 (i + 1) = 2 * p2 i := by
    simp only [p2, Nat.pow_succ]
    generalize 2 ^ i = z at *
    omega
  have h3 : 0 ≤ p2 i ∧ p2 i ≤ 65536 := by
    simp only [p2]
    generalize 2 ^ i = z at *
    omega
  obtain ⟨h4, h3⟩ := h3
  rw [h2, w64_id (by omega) (by omega)]
def xorBit (a b : Int) (i : Nat) : Bool := decide ((w64 (a.tdiv (p2 i))).tmod 2 = (w64 (b.tdiv (p2 i))).tmod 2)
def xorGo (a b : Int) : Nat → Nat → Int → Int
  | 0, _, o => o
  | n + 1, i, o => xorGo a b n (i + 1) (if xorBit a b i = true then o else w64 (o + p2 i))
theorem two0 : ((2 : Int) = 0) = False := by simp
set_option maxHeartbeats 4000000 in
theorem l216_0 (a b : Int) (H : Heap) : ∀ (n i : Nat) (o : Int), i + n = 16 →
    runL tab ext k216_0 ⟨(upd (upd (upd (upd (upd und 7 (.I i)) 6 (.I (p2 i))) 5 (.I o)) 1 (.I b)) 0 (.I a)), hp H []⟩ = some (.exit 0, ⟨(upd und 5 (.I (xorGo a b n i o))), hp H []⟩)
  | 0, i, o, h => by
    have h0 : ((i : Int) < 16) = False := by simp; omega
    rw [s216_0, b216_0]
    simp (maxSteps := 4000000) only [↓r216_6,  go_sem, ↓reduceIte, Nat.reduceMul, Int.reduceLT, Int.reduceNeg, Int.reduceEq, Int.reduceLE, Int.reduceAdd, Int.reduceSub, Nat.reduceEqDiff, Nat.reduceLeDiff, Nat.reduceLT, Nat.reduceAdd, reduceCtorEq, List.getElem?_map, Option.map_some, List.length_map, map_clC, map_nmC, ei64_0, eu8_0, eL_0, h0]
    simp only [xorGo, kst]
  | n + 1, i, o, h => by
    have h0 : ((i : Int) < 16) = True := by simp; omega
    have h5 := w64_inc (n := 16) (i := i) (by omega) (by omega)
    have h6 := p2_s (i := i) (by omega)
    have ih := fun o => l216_0 a b H n (i + 1) o (by omega)
    rw [s216_0, b216_0]
    by_cases hx : (w64 (a.tdiv (p2 i))).tmod 2 = (w64 (b.tdiv (p2 i))).tmod 2
    · simp (maxSteps := 4000000) only [↓r216_6,  go_sem, ↓reduceIte, Nat.reduceMul, Int.reduceLT, Int.reduceNeg, Int.reduceEq, Int.reduceLE, Int.reduceAdd, Int.reduceSub, Nat.reduceEqDiff, Nat.reduceLeDiff, Nat.reduceLT, Nat.reduceAdd, reduceCtorEq, List.getElem?_map, Option.map_some, List.length_map, map_clC, map_nmC, ei64_0, eu8_0, eL_0, h0, h5, h6, p2_0, two0, ih, hx]
      simp only [xorGo, xorBit, hx, decide_true, if_true, kst]
    · simp (maxSteps := 4000000) only [↓r216_6,  go_sem, ↓reduceIte, Nat.reduceMul, Int.reduceLT, Int.reduceNeg, Int.reduceEq, Int.reduceLE, Int.reduceAdd, Int.reduceSub, Nat.reduceEqDiff, Nat.reduceLeDiff, Nat.reduceLT, Nat.reduceAdd, reduceCtorEq, List.getElem?_map, Option.map_some, List.length_map, map_clC, map_nmC, ei64_0, eu8_0, eL_0, h0, h5, h6, p2_0, two0, ih, hx]
      simp only [xorGo, xorBit, hx, decide_false, Bool.false_eq_true, if_false, kst]
def xorS (a b : Int) : Int := xorGo a b 16 0 0
theorem c216 {H : Heap} (a b : Int) : callL tab ext 216 [.I a, .I b] H = some (.I (xorS a b), H) := by
  have hl := fun o => l216_0 (ext := ext) a b H 16 0 o rfl
  simp only [nat_0, show p2 0 = 1 from rfl] at hl
  rw [cl_216 rfl, B216]
  simp (maxSteps := 4000000) only [go_sem, ↓reduceIte, Nat.reduceMul, Int.reduceLT, Int.reduceNeg, Int.reduceEq, Int.reduceLE, Int.reduceAdd, Int.reduceSub, Nat.reduceEqDiff, Nat.reduceLeDiff, Nat.reduceLT, Nat.reduceAdd, reduceCtorEq, List.getElem?_map, Option.map_some, List.length_map, map_clC, map_nmC, ei64_0, eu8_0, eL_0, hl]
  try simp only [xorS]
theorem n8 : ((8 : Int) = 0) = False := by simp
theorem div8 {i : Nat} (h : i < 2 ^ 62) : w64 ((i : Int).tdiv 8) = ((i / 8 : Nat) : Int) := by
  rw [Int.tdiv_eq_ediv_of_nonneg (by omega), w64_id (by omega) (by omega)]; omega
theorem mod8 (i : Nat) : (i : Int).tmod 8 = ((i % 8 : Nat) : Int) := by
  rw [Int.tmod_eq_emod_of_nonneg (by omega)]; omega
def byteBit (x : Int) (i : Nat) : Int := (w64 (ishr .u8 x (u64 (w64 (7 - ((i % 8 : Nat) : Int)))))).tmod 2
def sumBit (b : List Int) (i : Nat) : Int := if i < 8 * b.length then byteBit (b.getD (i / 8) 0) i else 0
def sumStep (b : List Int) (i : Nat) (r : Int) : Int :=
  if 65536 ≤ w64 (w64 (2 * r) + (if i < 16 then w64 (1 - sumBit b i) else sumBit b i)) then xorS (w64 (w64 (w64 (2 * r) + (if i < 16 then w64 (1 - sumBit b i) else sumBit b i)) - 65536)) 4129
  else w64 (w64 (2 * r) + (if i < 16 then w64 (1 - sumBit b i) else sumBit b i))
def sumGo (b : List Int) : Nat → Nat → Int → Int
  | 0, _, r => r
  | n + 1, i, r => sumGo b n (i + 1) (sumStep b i r)
set_option maxHeartbeats 8000000 in
theorem l148_0 (b : List Int) (H : Heap) (hb : b.length < 2 ^ 32) : ∀ (n i : Nat) (r : Int), i + n = 8 * b.length + 16 →
    runL tab ext k148_0 ⟨(upd (upd (upd (upd und 5 (.I i)) 4 (.I r)) 3 (.I ((8 * b.length + 16 : Nat) : Int))) 0 (VL 1 eu8 b)), hp H []⟩ = some (.exit 0, ⟨(upd und 4 (.I (sumGo b n i r))), hp H []⟩)
  | 0, i, r, h => by
    have h0 : ((i : Int) < ((8 * b.length + 16 : Nat) : Int)) = False := by simp; omega
    rw [s148_0, b148_0]
    simp (maxSteps := 4000000) only [ go_sem, ↓reduceIte, Nat.reduceMul, Int.reduceLT, Int.reduceNeg, Int.reduceEq, Int.reduceLE, Int.reduceAdd, Int.reduceSub, Nat.reduceEqDiff, Nat.reduceLeDiff, Nat.reduceLT, Nat.reduceAdd, reduceCtorEq, List.getElem?_map, Option.map_some, List.length_map, map_clC, map_nmC, ei64_0, eu8_0, eL_0, h0]
    simp only [sumGo, kst]
  | n + 1, i, r, h => by
    have h0 : ((i : Int) < ((8 * b.length + 16 : Nat) : Int)) = True := by simp; omega
    have h5 := w64_inc (n := 8 * b.length + 16) (i := i) (by omega) (by omega)
    have h8 : w64 (8 * (b.length : Int)) = ((8 * b.length : Nat) : Int) := by rw [w64_id (by omega) (by omega)]; omega
    have ih := fun r => l148_0 b H hb n (i + 1) r (by omega)
    have hd := div8 (i := i) (by omega)
    rw [s148_0, b148_0]
    simp only [sumGo, sumStep]
    by_cases g1 : i < 8 * b.length
    · have g1' : ((i : Int) < ((8 * b.length : Nat) : Int)) = True := by simp; omega
      obtain ⟨x, hx⟩ := get_ex (l := b) (n := i / 8) (by omega)
      have hbit : sumBit b i = byteBit x i := by
        simp only [sumBit, if_pos g1, List.getD_eq_getElem?_getD, hx, Option.getD_some]
      have hbb : (w64 (ishr .u8 x (u64 (w64 (7 - ((i % 8 : Nat) : Int)))))).tmod 2 = byteBit x i := rfl
      rw [hbit]
      by_cases g2 : i < 16
      · have g2' : ((i : Int) < 16) = True := by simp; omega
        rw [if_pos g2]
        by_cases g3 : 65536 ≤ w64 (w64 (2 * r) + w64 (1 - byteBit x i))
        · simp (maxSteps := 4000000) only [ go_sem, ↓reduceIte, Nat.reduceMul, Int.reduceLT, Int.reduceNeg, Int.reduceEq, Int.reduceLE, Int.reduceAdd, Int.reduceSub, Nat.reduceEqDiff, Nat.reduceLeDiff, Nat.reduceLT, Nat.reduceAdd, reduceCtorEq, List.getElem?_map, Option.map_some, List.length_map, map_clC, map_nmC, ei64_0, eu8_0, eL_0, h0, h5, h8, g1', g2', n8, two0, hd, mod8, hx, u64_eq, u64_nn, hbb, g3, c216, ih]
        · simp (maxSteps := 4000000) only [ go_sem, ↓reduceIte, Nat.reduceMul, Int.reduceLT, Int.reduceNeg, Int.reduceEq, Int.reduceLE, Int.reduceAdd, Int.reduceSub, Nat.reduceEqDiff, Nat.reduceLeDiff, Nat.reduceLT, Nat.reduceAdd, reduceCtorEq, List.getElem?_map, Option.map_some, List.length_map, map_clC, map_nmC, ei64_0, eu8_0, eL_0, h0, h5, h8, g1', g2', n8, two0, hd, mod8, hx, u64_eq, u64_nn, hbb, g3, ih]
      · have g2' : ((i : Int) < 16) = False := by simp; omega
        rw [if_neg g2]
        by_cases g3 : 65536 ≤ w64 (w64 (2 * r) + byteBit x i)
        · simp (maxSteps := 4000000) only [ go_sem, ↓reduceIte, Nat.reduceMul, Int.reduceLT, Int.reduceNeg, Int.reduceEq, Int.reduceLE, Int.reduceAdd, Int.reduceSub, Nat.reduceEqDiff, Nat.reduceLeDiff, Nat.reduceLT, Nat.reduceAdd, reduceCtorEq, List.getElem?_map, Option.map_some, List.length_map, map_clC, map_nmC, ei64_0, eu8_0, eL_0, h0, h5, h8, g1', g2', n8, two0, hd, mod8, hx, u64_eq, u64_nn, hbb, g3, c216, ih]
        · simp (maxSteps := 4000000) only [ go_sem, ↓reduceIte, Nat.reduceMul, Int.reduceLT, Int.reduceNeg, Int.reduceEq, Int.reduceLE, Int.reduceAdd, Int.reduceSub, Nat.reduceEqDiff, Nat.reduceLeDiff, Nat.reduceLT, Nat.reduceAdd, reduceCtorEq, List.getElem?_map, Option.map_some, List.length_map, map_clC, map_nmC, ei64_0, eu8_0, eL_0, h0, h5, h8, g1', g2', n8, two0, hd, mod8, hx, u64_eq, u64_nn, hbb, g3, ih]
    · have g1' : ((i : Int) < ((8 * b.length : Nat) : Int)) = False := by simp; omega
      have hbit : sumBit b i = 0 := by simp only [sumBit, if_neg g1]
      rw [hbit]
      by_cases g2 : i < 16
      · have g2' : ((i : Int) < 16) = True := by simp; omega
        rw [if_pos g2]
        by_cases g3 : 65536 ≤ w64 (w64 (2 * r) + w64 (1 - 0))
        · simp only [Int.reduceSub, w64_1] at g3 ⊢
          simp (maxSteps := 4000000) only [ go_sem, ↓reduceIte, Nat.reduceMul, Int.reduceLT, Int.reduceNeg, Int.reduceEq, Int.reduceLE, Int.reduceAdd, Int.reduceSub, Nat.reduceEqDiff, Nat.reduceLeDiff, Nat.reduceLT, Nat.reduceAdd, reduceCtorEq, List.getElem?_map, Option.map_some, List.length_map, map_clC, map_nmC, ei64_0, eu8_0, eL_0, h0, h5, h8, g1', g2', g3, c216, ih]
        · simp only [Int.reduceSub, w64_1] at g3 ⊢
          simp (maxSteps := 4000000) only [ go_sem, ↓reduceIte, Nat.reduceMul, Int.reduceLT, Int.reduceNeg, Int.reduceEq, Int.reduceLE, Int.reduceAdd, Int.reduceSub, Nat.reduceEqDiff, Nat.reduceLeDiff, Nat.reduceLT, Nat.reduceAdd, reduceCtorEq, List.getElem?_map, Option.map_some, List.length_map, map_clC, map_nmC, ei64_0, eu8_0, eL_0, h0, h5, h8, g1', g2', g3, ih]
      · have g2' : ((i : Int) < 16) = False := by simp; omega
        rw [if_neg g2]
        by_cases g3 : 65536 ≤ w64 (w64 (2 * r) + 0)
        · simp (maxSteps := 4000000) only [ go_sem, ↓reduceIte, Nat.reduceMul, Int.reduceLT, Int.reduceNeg, Int.reduceEq, Int.reduceLE, Int.reduceAdd, Int.reduceSub, Nat.reduceEqDiff, Nat.reduceLeDiff, Nat.reduceLT, Nat.reduceAdd, reduceCtorEq, List.getElem?_map, Option.map_some, List.length_map, map_clC, map_nmC, ei64_0, eu8_0, eL_0, h0, h5, h8, g1', g2', g3, c216, ih]
        · simp (maxSteps := 4000000) only [ go_sem, ↓reduceIte, Nat.reduceMul, Int.reduceLT, Int.reduceNeg, Int.reduceEq, Int.reduceLE, Int.reduceAdd, Int.reduceSub, Nat.reduceEqDiff, Nat.reduceLeDiff, Nat.reduceLT, Nat.reduceAdd, reduceCtorEq, List.getElem?_map, Option.map_some, List.length_map, map_clC, map_nmC, ei64_0, eu8_0, eL_0, h0, h5, h8, g1', g2', g3, ih]
def refSum (b : List Int) : Int := sumGo b (8 * b.length + 16) 0 0
theorem c148 {H : Heap} (b : List Int) (hb : b.length < 2 ^ 32) : callL tab ext 148 [VL 1 eu8 b] H = some (.I (refSum b), H) := by
  have hl := l148_0 (ext := ext) b H hb (8 * b.length + 16) 0 0 (by omega)
  have h8 : w64 (8 * (b.length : Int)) = ((8 * b.length : Nat) : Int) := by rw [w64_id (by omega) (by omega)]; omega
  have h9 : w64 (((8 * b.length : Nat) : Int) + 16) = ((8 * b.length + 16 : Nat) : Int) := by rw [w64_id (by omega) (by omega)]; omega
  simp only [nat_0] at hl
  rw [cl_148 rfl, B148]
  simp (maxSteps := 4000000) only [go_sem, ↓reduceIte, Nat.reduceMul, Int.reduceLT, Int.reduceNeg, Int.reduceEq, Int.reduceLE, Int.reduceAdd, Int.reduceSub, Nat.reduceEqDiff, Nat.reduceLeDiff, Nat.reduceLT, Nat.reduceAdd, reduceCtorEq, List.getElem?_map, Option.map_some, List.length_map, map_clC, map_nmC, ei64_0, eu8_0, eL_0, h8, h9, hl]
  try simp only [refSum]

end
end Go.Ab
namespace Go.Ab
section
variable {ext : Callee}
def valR : Int → List Int → Int
  | v, [] => v
  | v, x :: r => valR (w64 (w64 (256 * v) + w64 x)) r
def refGet (b : List Int) : Frame × Int :=
  match b with
  | x0 :: x1 :: x2 :: _ :: _ :: _ =>
    if sizeK (w64 x0) = 0 then (frZ, 30) else if ¬ w64 x2 = sizeK (w64 x0) then (frZ, 11) else if ¬ (b.length : Int) = w64 (5 + sizeK (w64 x0)) then (frZ, 11) else
    if ¬ refSum (b.take (3 + (sizeK (w64 x0)).toNat)) = w64 (w64 (w64 (b.getD (3 + (sizeK (w64 x0)).toNat) 0) * 256) + w64 (b.getD (4 + (sizeK (w64 x0)).toNat) 0)) then (frZ, 31) else
    (⟨w64 x0, w64 x1, if (if sizeK (w64 x0) = 4 then decide (2147483648 ≤ valR 0 ((b.drop 3).take (sizeK (w64 x0)).toNat)) else false) = true then w64 (valR 0 ((b.drop 3).take (sizeK (w64 x0)).toNat) - 4294967296) else valR 0 ((b.drop 3).take (sizeK (w64 x0)).toNat)⟩, 0)
  | _ => (frZ, 14)
set_option maxHeartbeats 8000000 in
theorem c107 {H : Heap} (b : List Int) (hn : b.length < 2 ^ 32) : callL tab ext 107 [VL 1 eu8 b] H = some (.tup [.agg [J (refGet b).1.kind, J (refGet b).1.seq, J (refGet b).1.value], .I (refGet b).2], H) := by
  rw [cl_107 rfl, B107]
  by_cases hlen : b.length < 5
  · have h1 : ((b.length : Int) < 5) = True := by simp; omega
    have h2 : refGet b = (frZ, 14) := by
      unfold refGet
      match b, hlen with
      | [], _ => rfl
      | [_], _ => rfl
      | [_, _], _ => rfl
      | [_, _, _], _ => rfl
      | [_, _, _, _], _ => rfl
    simp (maxSteps := 4000000) only [go_sem, ↓reduceIte, Nat.reduceMul, Int.reduceLT, Int.reduceNeg, Int.reduceEq, Int.reduceLE, Int.reduceAdd, Int.reduceSub, Nat.reduceEqDiff, Nat.reduceLeDiff, Nat.reduceLT, Nat.reduceAdd, reduceCtorEq, Frame.enc, Frame.encC_all, Frame.enc_0, Frame.enc_1, Frame.enc_2, Frame.enc_all, Frame.enc_len, List.getElem?_map, Option.map_some, List.length_map, map_clC, map_nmC, ei64_0, eu8_0, eL_0, h1]
    simp only [h2, frZ]
  · have h1 : ((b.length : Int) < 5) = False := by simp; omega
    obtain ⟨x0, x1, x2, x3, x4, r, rfl⟩ : ∃ x0 x1 x2 x3 x4 r, b = x0 :: x1 :: x2 :: x3 :: x4 :: r := by
      match b, hlen with
      | x0 :: x1 :: x2 :: x3 :: x4 :: r, _ => exact ⟨_, _, _, _, _, _, rfl⟩
      | [], h => exact (h (by simp)).elim
      | [_], h => exact (h (by simp)).elim
      | [_, _], h => exact (h (by simp)).elim
      | [_, _, _], h => exact (h (by simp)).elim
      | [_, _, _, _], h => exact (h (by simp)).elim
    have g0 : (x0 :: x1 :: x2 :: x3 :: x4 :: r)[0]? = some x0 := rfl
    have g1 : (x0 :: x1 :: x2 :: x3 :: x4 :: r)[1]? = some x1 := rfl
    have g2 : (x0 :: x1 :: x2 :: x3 :: x4 :: r)[2]? = some x2 := rfl
    rcases sizeK_cases (w64 x0) with hk | hk | hk
    · simp only [refGet]
      generalize hb : x0 :: x1 :: x2 :: x3 :: x4 :: r = b at *
      simp (maxSteps := 4000000) only [go_sem, ↓reduceIte, Nat.reduceMul, Int.reduceLT, Int.reduceNeg, Int.reduceEq, Int.reduceLE, Int.reduceAdd, Int.reduceSub, Nat.reduceEqDiff, Nat.reduceLeDiff, Nat.reduceLT, Nat.reduceAdd, reduceCtorEq, Frame.enc, Frame.encC_all, Frame.enc_0, Frame.enc_1, Frame.enc_2, Frame.enc_all, Frame.enc_len, List.getElem?_map, Option.map_some, List.length_map, map_clC, map_nmC, ei64_0, eu8_0, eL_0, h1, g0, g1, g2, c147, hk]
      simp only [hk, frZ, if_true]
    · by_cases q1 : w64 x2 = 2
      · by_cases q2 : ((x0 :: x1 :: x2 :: x3 :: x4 :: r).length : Int) = 7
        · obtain ⟨x5, x6, rfl⟩ : ∃ x5 x6, r = [x5, x6] := by
            have hr : r.length = 2 := by simp at q2; omega
            match r, hr with
            | [x5, x6], _ => exact ⟨x5, x6, rfl⟩
          have hs := fun H => c148 (ext := ext) (H := H) [x0, x1, x2, x3, x4] (by simp)
          simp only [VL, List.map_cons, List.map_nil] at hs
          have he : refGet [x0, x1, x2, x3, x4, x5, x6] = if ¬ refSum [x0, x1, x2, x3, x4] = w64 (w64 (w64 x5 * 256) + w64 x6) then (frZ, 31) else (⟨w64 x0, w64 x1, valR 0 [x3, x4]⟩, 0) := by
            simp [refGet, hk, q1, w64_5, w64_7, w64_9]
          rw [he]
          by_cases q3 : refSum [x0, x1, x2, x3, x4] = w64 (w64 (w64 x5 * 256) + w64 x6)
          · rw [if_neg (by simp [q3])]
            by_cases q4 : 2147483648 ≤ valR 0 [x3, x4]
            · simp only [valR] at q4
              simp only [↓s107_0, b107_0, ↓r107_8, ↓r107_17,  go_sem, ↓reduceIte, Nat.reduceMul, Int.reduceLT, Int.reduceNeg, Int.reduceEq, Int.reduceLE, Int.reduceAdd, Int.reduceSub, Nat.reduceEqDiff, Nat.reduceLeDiff, Nat.reduceLT, Nat.reduceAdd, reduceCtorEq, Frame.enc, Frame.encC_all, Frame.enc_0, Frame.enc_1, Frame.enc_2, Frame.enc_all, Frame.enc_len, List.getElem?_map, Option.map_some, List.length_map, map_clC, map_nmC, ei64_0, eu8_0, eL_0, c147, hk, q1, hs, q3, q4, Nat.sub_zero, Nat.reduceSub]
              simp only [valR]
            · simp only [valR] at q4
              simp only [↓s107_0, b107_0, ↓r107_8, ↓r107_17,  go_sem, ↓reduceIte, Nat.reduceMul, Int.reduceLT, Int.reduceNeg, Int.reduceEq, Int.reduceLE, Int.reduceAdd, Int.reduceSub, Nat.reduceEqDiff, Nat.reduceLeDiff, Nat.reduceLT, Nat.reduceAdd, reduceCtorEq, Frame.enc, Frame.encC_all, Frame.enc_0, Frame.enc_1, Frame.enc_2, Frame.enc_all, Frame.enc_len, List.getElem?_map, Option.map_some, List.length_map, map_clC, map_nmC, ei64_0, eu8_0, eL_0, c147, hk, q1, hs, q3, q4, Nat.sub_zero, Nat.reduceSub]
              simp only [valR]
          · rw [if_pos (by simp [q3])]
            simp (maxSteps := 4000000) only [↓r107_8, ↓r107_17,  go_sem, ↓reduceIte, Nat.reduceMul, Int.reduceLT, Int.reduceNeg, Int.reduceEq, Int.reduceLE, Int.reduceAdd, Int.reduceSub, Nat.reduceEqDiff, Nat.reduceLeDiff, Nat.reduceLT, Nat.reduceAdd, reduceCtorEq, Frame.enc, Frame.encC_all, Frame.enc_0, Frame.enc_1, Frame.enc_2, Frame.enc_all, Frame.enc_len, List.getElem?_map, Option.map_some, List.length_map, map_clC, map_nmC, ei64_0, eu8_0, eL_0, c147, hk, q1, hs, q3, Nat.sub_zero, Nat.reduceSub]
            simp only [frZ]
        · simp only [refGet]
          generalize hb : x0 :: x1 :: x2 :: x3 :: x4 :: r = b at *
          simp (maxSteps := 4000000) only [go_sem, ↓reduceIte, Nat.reduceMul, Int.reduceLT, Int.reduceNeg, Int.reduceEq, Int.reduceLE, Int.reduceAdd, Int.reduceSub, Nat.reduceEqDiff, Nat.reduceLeDiff, Nat.reduceLT, Nat.reduceAdd, reduceCtorEq, Frame.enc, Frame.encC_all, Frame.enc_0, Frame.enc_1, Frame.enc_2, Frame.enc_all, Frame.enc_len, List.getElem?_map, Option.map_some, List.length_map, map_clC, map_nmC, ei64_0, eu8_0, eL_0, h1, g0, g1, g2, c147, hk, q1, q2]
          simp only [hk, q1, q2, frZ, Int.reduceAdd, w64_5, w64_6, w64_7, w64_9]
          all_goals ((repeat' (first | with_reducible rfl | with_reducible contradiction | split)) <;> (first | with_reducible rfl | (simp_all; done) | (simp_all; omega) | omega))
      · simp only [refGet]
        generalize hb : x0 :: x1 :: x2 :: x3 :: x4 :: r = b at *
        simp (maxSteps := 4000000) only [go_sem, ↓reduceIte, Nat.reduceMul, Int.reduceLT, Int.reduceNeg, Int.reduceEq, Int.reduceLE, Int.reduceAdd, Int.reduceSub, Nat.reduceEqDiff, Nat.reduceLeDiff, Nat.reduceLT, Nat.reduceAdd, reduceCtorEq, Frame.enc, Frame.encC_all, Frame.enc_0, Frame.enc_1, Frame.enc_2, Frame.enc_all, Frame.enc_len, List.getElem?_map, Option.map_some, List.length_map, map_clC, map_nmC, ei64_0, eu8_0, eL_0, h1, g0, g1, g2, c147, hk, q1]
        simp only [hk, q1, frZ]
        all_goals ((repeat' (first | with_reducible rfl | with_reducible contradiction | split)) <;> (first | with_reducible rfl | (simp_all; done) | (simp_all; omega) | omega))
    · by_cases q1 : w64 x2 = 4
      · by_cases q2 : ((x0 :: x1 :: x2 :: x3 :: x4 :: r).length : Int) = 9
        · obtain ⟨x5, x6, x7, x8, rfl⟩ : ∃ x5 x6 x7 x8, r = [x5, x6, x7, x8] := by
            have hr : r.length = 4 := by simp at q2; omega
            match r, hr with
            | [x5, x6, x7, x8], _ => exact ⟨x5, x6, x7, x8, rfl⟩
          have hs := fun H => c148 (ext := ext) (H := H) [x0, x1, x2, x3, x4, x5, x6] (by simp)
          simp only [VL, List.map_cons, List.map_nil] at hs
          have he : refGet [x0, x1, x2, x3, x4, x5, x6, x7, x8] = if ¬ refSum [x0, x1, x2, x3, x4, x5, x6] = w64 (w64 (w64 x7 * 256) + w64 x8) then (frZ, 31) else (⟨w64 x0, w64 x1, if 2147483648 ≤ valR 0 [x3, x4, x5, x6] then w64 (valR 0 [x3, x4, x5, x6] - 4294967296) else valR 0 [x3, x4, x5, x6]⟩, 0) := by
            simp [refGet, hk, q1, w64_5, w64_7, w64_9]
          rw [he]
          by_cases q3 : refSum [x0, x1, x2, x3, x4, x5, x6] = w64 (w64 (w64 x7 * 256) + w64 x8)
          · rw [if_neg (by simp [q3])]
            by_cases q4 : 2147483648 ≤ valR 0 [x3, x4, x5, x6]
            · simp only [valR] at q4
              simp only [↓s107_0, b107_0, ↓r107_8, ↓r107_17,  go_sem, ↓reduceIte, Nat.reduceMul, Int.reduceLT, Int.reduceNeg, Int.reduceEq, Int.reduceLE, Int.reduceAdd, Int.reduceSub, Nat.reduceEqDiff, Nat.reduceLeDiff, Nat.reduceLT, Nat.reduceAdd, reduceCtorEq, Frame.enc, Frame.encC_all, Frame.enc_0, Frame.enc_1, Frame.enc_2, Frame.enc_all, Frame.enc_len, List.getElem?_map, Option.map_some, List.length_map, map_clC, map_nmC, ei64_0, eu8_0, eL_0, c147, hk, q1, hs, q3, q4, Nat.sub_zero, Nat.reduceSub]
              simp only [valR, q4, if_true]
            · simp only [valR] at q4
              simp only [↓s107_0, b107_0, ↓r107_8, ↓r107_17,  go_sem, ↓reduceIte, Nat.reduceMul, Int.reduceLT, Int.reduceNeg, Int.reduceEq, Int.reduceLE, Int.reduceAdd, Int.reduceSub, Nat.reduceEqDiff, Nat.reduceLeDiff, Nat.reduceLT, Nat.reduceAdd, reduceCtorEq, Frame.enc, Frame.encC_all, Frame.enc_0, Frame.enc_1, Frame.enc_2, Frame.enc_all, Frame.enc_len, List.getElem?_map, Option.map_some, List.length_map, map_clC, map_nmC, ei64_0, eu8_0, eL_0, c147, hk, q1, hs, q3, q4, Nat.sub_zero, Nat.reduceSub]
              simp only [valR, q4, if_false]
          · rw [if_pos (by simp [q3])]
            simp (maxSteps := 4000000) only [↓r107_8, ↓r107_17,  go_sem, ↓reduceIte, Nat.reduceMul, Int.reduceLT, Int.reduceNeg, Int.reduceEq, Int.reduceLE, Int.reduceAdd, Int.reduceSub, Nat.reduceEqDiff, Nat.reduceLeDiff, Nat.reduceLT, Nat.reduceAdd, reduceCtorEq, Frame.enc, Frame.encC_all, Frame.enc_0, Frame.enc_1, Frame.enc_2, Frame.enc_all, Frame.enc_len, List.getElem?_map, Option.map_some, List.length_map, map_clC, map_nmC, ei64_0, eu8_0, eL_0, c147, hk, q1, hs, q3, Nat.sub_zero, Nat.reduceSub]
            simp only [frZ]
        · simp only [refGet]
          generalize hb : x0 :: x1 :: x2 :: x3 :: x4 :: r = b at *
          simp (maxSteps := 4000000) only [go_sem, ↓reduceIte, Nat.reduceMul, Int.reduceLT, Int.reduceNeg, Int.reduceEq, Int.reduceLE, Int.reduceAdd, Int.reduceSub, Nat.reduceEqDiff, Nat.reduceLeDiff, Nat.reduceLT, Nat.reduceAdd, reduceCtorEq, Frame.enc, Frame.encC_all, Frame.enc_0, Frame.enc_1, Frame.enc_2, Frame.enc_all, Frame.enc_len, List.getElem?_map, Option.map_some, List.length_map, map_clC, map_nmC, ei64_0, eu8_0, eL_0, h1, g0, g1, g2, c147, hk, q1, q2]
          simp only [hk, q1, q2, frZ, Int.reduceAdd, w64_5, w64_6, w64_7, w64_9]
          all_goals ((repeat' (first | with_reducible rfl | with_reducible contradiction | split)) <;> (first | with_reducible rfl | (simp_all; done) | (simp_all; omega) | omega))
      · simp only [refGet]
        generalize hb : x0 :: x1 :: x2 :: x3 :: x4 :: r = b at *
        simp (maxSteps := 4000000) only [go_sem, ↓reduceIte, Nat.reduceMul, Int.reduceLT, Int.reduceNeg, Int.reduceEq, Int.reduceLE, Int.reduceAdd, Int.reduceSub, Nat.reduceEqDiff, Nat.reduceLeDiff, Nat.reduceLT, Nat.reduceAdd, reduceCtorEq, Frame.enc, Frame.encC_all, Frame.enc_0, Frame.enc_1, Frame.enc_2, Frame.enc_all, Frame.enc_len, List.getElem?_map, Option.map_some, List.length_map, map_clC, map_nmC, ei64_0, eu8_0, eL_0, h1, g0, g1, g2, c147, hk, q1]
        simp only [hk, q1, frZ]
        all_goals ((repeat' (first | with_reducible rfl | with_reducible contradiction | split)) <;> (first | with_reducible rfl | (simp_all; done) | (simp_all; omega) | omega))

end
end Go.Ab
namespace Go.Ab
section
variable {ext : Callee}
def refJunkBad (k : Nat) (b : List Int) : Bool := if (refGet b).2 = 0 then decide ((refGet b).1.seq = (k : Int).tmod 256) else false
def refJunkGo (k : Nat) : List (List Int) → Bool
  | [] => true
  | b :: r => if refJunkBad k b = true then false else refJunkGo k r
theorem n256 : ((256 : Int) = 0) = False := by simp
set_option maxHeartbeats 4000000 in
theorem l58_1 (s : RScript) (k : Nat) (y : RTick) (H : Heap) (hy : s.ticks[k]? = some y) (hn : y.junk.length < 2 ^ 63) (hb : ∀ b ∈ y.junk, b.length < 2 ^ 32) : ∀ (r : List (List Int)) (i : Nat), y.junk.drop i = r →
    runL tab ext k58_1 ⟨(upd (upd (upd und 4 (.I i)) 3 (.I k)) 1 (.c (.ptr (pid H 0) 0))), hp H [⟨true, (RScript.enc s).map .d⟩]⟩ =
    if refJunkGo k r = true then some (.exit 2, ⟨(upd (upd und 3 (.I k)) 1 (.c (.ptr (pid H 0) 0))), hp H [⟨true, (RScript.enc s).map .d⟩]⟩) else some (.ret, ⟨(upd und 2 (.B false)), hp H [⟨true, (RScript.enc s).map .d⟩]⟩)
  | [], i, hs => by
    have h0 := dr_end hs
    rw [s58_1, b58_1]
    simp (maxSteps := 4000000) only [ go_sem, ↓reduceIte, Nat.reduceMul, Int.reduceLT, Int.reduceNeg, Int.reduceEq, Int.reduceLE, Int.reduceAdd, Int.reduceSub, Nat.reduceEqDiff, Nat.reduceLeDiff, Nat.reduceLT, Nat.reduceAdd, reduceCtorEq, RScript.encC_all, RScript.enc_0, RScript.enc_1, RScript.enc_2, RScript.enc_3, RScript.enc_4, RScript.enc_5, RScript.enc_6, RScript.enc_7, RScript.enc_8, RScript.enc_all, RScript.enc_len, RScript.subC_3_2, RScript.subC_5_2, RScript.sub_3_2, RScript.sub_5_2, RTick.encC_all, RTick.enc_0, RTick.enc_1, RTick.enc_10, RTick.enc_2, RTick.enc_3, RTick.enc_4, RTick.enc_5, RTick.enc_6, RTick.enc_7, RTick.enc_8, RTick.enc_9, RTick.enc_all, RTick.enc_len, RTick.subC_1_2, RTick.subC_5_4, RTick.sub_1_2, RTick.sub_5_4, List.getElem?_map, Option.map_some, List.length_map, map_clC, map_nmC, ei64_0, eu8_0, eL_0, h0, hy]
    simp only [refJunkGo, kst, if_true]
  | b :: r, i, hs => by
    obtain ⟨h1, h2, h3⟩ := dr_cons hs
    have ih := l58_1 s k y H hy hn hb r (i + 1) h3
    have h4 := dr_lt h2
    have h5 := w64_inc h2 hn
    have hg := fun H => c107 (ext := ext) (H := H) b (hb b (List.mem_of_getElem? h1))
    rw [s58_1, b58_1]
    simp (maxSteps := 4000000) only [ go_sem, ↓reduceIte, Nat.reduceMul, Int.reduceLT, Int.reduceNeg, Int.reduceEq, Int.reduceLE, Int.reduceAdd, Int.reduceSub, Nat.reduceEqDiff, Nat.reduceLeDiff, Nat.reduceLT, Nat.reduceAdd, reduceCtorEq, RScript.encC_all, RScript.enc_0, RScript.enc_1, RScript.enc_2, RScript.enc_3, RScript.enc_4, RScript.enc_5, RScript.enc_6, RScript.enc_7, RScript.enc_8, RScript.enc_all, RScript.enc_len, RScript.subC_3_2, RScript.subC_5_2, RScript.sub_3_2, RScript.sub_5_2, RTick.encC_all, RTick.enc_0, RTick.enc_1, RTick.enc_10, RTick.enc_2, RTick.enc_3, RTick.enc_4, RTick.enc_5, RTick.enc_6, RTick.enc_7, RTick.enc_8, RTick.enc_9, RTick.enc_all, RTick.enc_len, RTick.subC_1_2, RTick.subC_5_4, RTick.sub_1_2, RTick.sub_5_4, Frame.enc, Frame.encC_all, Frame.enc_0, Frame.enc_1, Frame.enc_2, Frame.enc_all, Frame.enc_len, List.getElem?_map, Option.map_some, List.length_map, map_clC, map_nmC, ei64_0, eu8_0, eL_0, h1, h4, h5, hy, hg, n256, ih]
    simp only [refJunkGo, refJunkBad, kst]
    all_goals ((repeat' (first | with_reducible rfl | with_reducible contradiction | split)) <;> (first | with_reducible rfl | (simp_all; done) | (simp_all; omega) | omega))
def refJunkAll : Nat → List RTick → Bool
  | _, [] => true
  | i, k :: r => if 27 < (k.junk.length : Int) then false else if refJunkGo i k.junk = true then refJunkAll (i + 1) r else false
set_option maxHeartbeats 4000000 in
theorem l58_0 (s : RScript) (H : Heap) (hn : s.ticks.length < 2 ^ 63) (hj : ∀ k ∈ s.ticks, k.junk.length < 2 ^ 63 ∧ ∀ b ∈ k.junk, b.length < 2 ^ 32) : ∀ (r : List RTick) (i : Nat), s.ticks.drop i = r →
    runL tab ext k58_0 ⟨(upd (upd und 3 (.I i)) 1 (.c (.ptr (pid H 0) 0))), hp H [⟨true, (RScript.enc s).map .d⟩]⟩ =
    if refJunkAll i r = true then some (.exit 0, ⟨und, hp H [⟨true, (RScript.enc s).map .d⟩]⟩) else some (.ret, ⟨(upd und 2 (.B false)), hp H [⟨true, (RScript.enc s).map .d⟩]⟩)
  | [], i, hs => by
    have h0 := dr_end hs
    rw [s58_0, b58_0]
    simp (maxSteps := 4000000) only [ go_sem, ↓reduceIte, Nat.reduceMul, Int.reduceLT, Int.reduceNeg, Int.reduceEq, Int.reduceLE, Int.reduceAdd, Int.reduceSub, Nat.reduceEqDiff, Nat.reduceLeDiff, Nat.reduceLT, Nat.reduceAdd, reduceCtorEq, RScript.encC_all, RScript.enc_0, RScript.enc_1, RScript.enc_2, RScript.enc_3, RScript.enc_4, RScript.enc_5, RScript.enc_6, RScript.enc_7, RScript.enc_8, RScript.enc_all, RScript.enc_len, RScript.subC_3_2, RScript.subC_5_2, RScript.sub_3_2, RScript.sub_5_2, RTick.encC_all, RTick.enc_0, RTick.enc_1, RTick.enc_10, RTick.enc_2, RTick.enc_3, RTick.enc_4, RTick.enc_5, RTick.enc_6, RTick.enc_7, RTick.enc_8, RTick.enc_9, RTick.enc_all, RTick.enc_len, RTick.subC_1_2, RTick.subC_5_4, RTick.sub_1_2, RTick.sub_5_4, List.getElem?_map, Option.map_some, List.length_map, map_clC, map_nmC, ei64_0, eu8_0, eL_0, h0]
    simp only [refJunkAll, kst, if_true]
  | k :: r, i, hs => by
    obtain ⟨h1, h2, h3⟩ := dr_cons hs
    have ih := l58_0 s H hn hj r (i + 1) h3
    have h4 := dr_lt h2
    have h5 := w64_inc h2 hn
    obtain ⟨j1, j2⟩ := hj k (List.mem_of_getElem? h1)
    have hg := l58_1 (ext := ext) s i k H h1 j1 j2 k.junk 0 rfl
    simp only [nat_0] at hg
    rw [s58_0, b58_0]
    simp (maxSteps := 4000000) only [ go_sem, ↓reduceIte, Nat.reduceMul, Int.reduceLT, Int.reduceNeg, Int.reduceEq, Int.reduceLE, Int.reduceAdd, Int.reduceSub, Nat.reduceEqDiff, Nat.reduceLeDiff, Nat.reduceLT, Nat.reduceAdd, reduceCtorEq, RScript.encC_all, RScript.enc_0, RScript.enc_1, RScript.enc_2, RScript.enc_3, RScript.enc_4, RScript.enc_5, RScript.enc_6, RScript.enc_7, RScript.enc_8, RScript.enc_all, RScript.enc_len, RScript.subC_3_2, RScript.subC_5_2, RScript.sub_3_2, RScript.sub_5_2, RTick.encC_all, RTick.enc_0, RTick.enc_1, RTick.enc_10, RTick.enc_2, RTick.enc_3, RTick.enc_4, RTick.enc_5, RTick.enc_6, RTick.enc_7, RTick.enc_8, RTick.enc_9, RTick.enc_all, RTick.enc_len, RTick.subC_1_2, RTick.subC_5_4, RTick.sub_1_2, RTick.sub_5_4, List.getElem?_map, Option.map_some, List.length_map, map_clC, map_nmC, ei64_0, eu8_0, eL_0, h1, h4, h5, hg, ih]
    simp only [refJunkAll, kst]
    all_goals ((repeat' (first | with_reducible rfl | with_reducible contradiction | split)) <;> (first | with_reducible rfl | (simp_all; done) | (simp_all; omega) | omega))
set_option maxHeartbeats 4000000 in
theorem c58 {H : Heap} (s : RScript) (hn : s.ticks.length < 2 ^ 63) (hj : ∀ k ∈ s.ticks, k.junk.length < 2 ^ 63 ∧ ∀ b ∈ k.junk, b.length < 2 ^ 32) : callL tab ext 58 [.agg ((RScript.enc s).map .d)] H = some (.B (refJunkAll 0 s.ticks), H) := by
  have hl := l58_0 (ext := ext) s H hn hj s.ticks 0 rfl
  simp only [nat_0] at hl
  rw [cl_58 rfl, B58]
  simp (maxSteps := 4000000) only [ go_sem, ↓reduceIte, Nat.reduceMul, Int.reduceLT, Int.reduceNeg, Int.reduceEq, Int.reduceLE, Int.reduceAdd, Int.reduceSub, Nat.reduceEqDiff, Nat.reduceLeDiff, Nat.reduceLT, Nat.reduceAdd, reduceCtorEq, RScript.encC_all, RScript.enc_0, RScript.enc_1, RScript.enc_2, RScript.enc_3, RScript.enc_4, RScript.enc_5, RScript.enc_6, RScript.enc_7, RScript.enc_8, RScript.enc_all, RScript.enc_len, RScript.subC_3_2, RScript.subC_5_2, RScript.sub_3_2, RScript.sub_5_2, List.getElem?_map, Option.map_some, List.length_map, map_clC, map_nmC, ei64_0, eu8_0, eL_0, hl]
  all_goals ((repeat' (first | with_reducible rfl | with_reducible contradiction | split)) <;> (first | with_reducible rfl | (simp_all; done) | (simp_all; omega) | omega))
def refSensAll (c : Config) (s : RScript) : Nat → List RTick → Bool
  | _, [] => true
  | i, _ :: r => if refSens c s i = true then refSensAll c s (i + 1) r else false
set_option maxHeartbeats 4000000 in
theorem l17_0 (c : Config) (b1 : Box) (s : RScript) (H : Heap) (hn : s.ticks.length ≤ 4096) (h0 : ¬ s.circ 0 = 0) (h1 : ¬ s.circ 1 = 0) (hp' : ¬ c.pulses = 0) : ∀ (r : List RTick) (i : Nat), s.ticks.drop i = r →
    runL tab ext k17_0 ⟨(upd (upd (upd (upd und 10 (.I i)) 5 (.c (.ptr (pid H 2) 0))) 4 (.c (.ptr (pid H 1) 0))) 3 (.c (.ptr (pid H 0) 0))), hp H [⟨true, (Config.enc c).map .d⟩, b1, ⟨true, (RScript.enc s).map .d⟩]⟩ =
    if refSensAll c s i r = true then some (.exit 0, ⟨(upd (upd (upd und 5 (.c (.ptr (pid H 2) 0))) 4 (.c (.ptr (pid H 1) 0))) 3 (.c (.ptr (pid H 0) 0))), hp H [⟨true, (Config.enc c).map .d⟩, b1, ⟨true, (RScript.enc s).map .d⟩]⟩) else some (.ret, ⟨(upd und 6 (.I 7)), hp H [⟨true, (Config.enc c).map .d⟩, b1, ⟨true, (RScript.enc s).map .d⟩]⟩)
  | [], i, hs => by
    have h0 := dr_end hs
    rw [s17_0, b17_0]
    simp (maxSteps := 4000000) only [ go_sem, ↓reduceIte, Nat.reduceMul, Int.reduceLT, Int.reduceNeg, Int.reduceEq, Int.reduceLE, Int.reduceAdd, Int.reduceSub, Nat.reduceEqDiff, Nat.reduceLeDiff, Nat.reduceLT, Nat.reduceAdd, reduceCtorEq, Config.encC_all, Config.enc_0, Config.enc_1, Config.enc_10, Config.enc_11, Config.enc_12, Config.enc_13, Config.enc_2, Config.enc_3, Config.enc_4, Config.enc_5, Config.enc_6, Config.enc_7, Config.enc_8, Config.enc_9, Config.enc_all, Config.enc_len, RScript.encC_all, RScript.enc_0, RScript.enc_1, RScript.enc_2, RScript.enc_3, RScript.enc_4, RScript.enc_5, RScript.enc_6, RScript.enc_7, RScript.enc_8, RScript.enc_all, RScript.enc_len, RScript.subC_3_2, RScript.subC_5_2, RScript.sub_3_2, RScript.sub_5_2, List.getElem?_map, Option.map_some, List.length_map, map_clC, map_nmC, ei64_0, eu8_0, eL_0, h0]
    simp only [refSensAll, kst, if_true]
  | k :: r, i, hs => by
    obtain ⟨_, h2, h3⟩ := dr_cons hs
    have ih := l17_0 c b1 s H hn h0 h1 hp' r (i + 1) h3
    have h4 := dr_lt h2
    have h5 := w64_inc h2 (by omega)
    have hg := fun H => c56 (ext := ext) (H := H) c s i h2 hn h0 h1 hp'
    rw [s17_0, b17_0]
    simp (maxSteps := 4000000) only [ go_sem, ↓reduceIte, Nat.reduceMul, Int.reduceLT, Int.reduceNeg, Int.reduceEq, Int.reduceLE, Int.reduceAdd, Int.reduceSub, Nat.reduceEqDiff, Nat.reduceLeDiff, Nat.reduceLT, Nat.reduceAdd, reduceCtorEq, Config.encC_all, Config.enc_0, Config.enc_1, Config.enc_10, Config.enc_11, Config.enc_12, Config.enc_13, Config.enc_2, Config.enc_3, Config.enc_4, Config.enc_5, Config.enc_6, Config.enc_7, Config.enc_8, Config.enc_9, Config.enc_all, Config.enc_len, RScript.encC_all, RScript.enc_0, RScript.enc_1, RScript.enc_2, RScript.enc_3, RScript.enc_4, RScript.enc_5, RScript.enc_6, RScript.enc_7, RScript.enc_8, RScript.enc_all, RScript.enc_len, RScript.subC_3_2, RScript.subC_5_2, RScript.sub_3_2, RScript.sub_5_2, List.getElem?_map, Option.map_some, List.length_map, map_clC, map_nmC, ei64_0, eu8_0, eL_0, h4, h5, hg, ih]
    simp only [refSensAll, kst]
    by_cases h : refSens c s i = true <;> simp [h]
def refCheck (c : Config) (t : Track) (s : RScript) : Int :=
  if ¬ (refFits c t).1 = 0 then 1 else if refRoute t s.route = false then 2 else if refOn t s = false then 3 else if refSpeeds c s = false then 4 else if ¬ refNums c s = 0 then refNums c s else if refSensAll c s 0 s.ticks = false then 7 else if refReads c t s = false then 8 else if refJunkAll 0 s.ticks = false then 9 else 0
theorem refWrong_parts {c : Config} (h : refWrong c = 0) : 1 ≤ c.pulses ∧ 131072 ≤ c.circLo := by
  unfold refWrong at h
  by_cases q0 : outR c.pulses 1 1024 = true
  · rw [if_pos q0] at h; cases h
  rw [if_neg q0] at h
  by_cases q1 : out2 c.circLo 131072 8388608 c.circHi c.circLo 8388608 = true
  · rw [if_pos q1] at h; cases h
  constructor
  · apply Classical.byContradiction; intro hh
    exact q0 (by have : c.pulses < 1 := by omega
                 simp [outR, this])
  · apply Classical.byContradiction; intro hh
    exact q1 (by have : c.circLo < 131072 := by omega
                 simp [out2, this])
theorem refNums_parts {c : Config} {s : RScript} (h : refNums c s = 0) : c.circLo ≤ s.circ 0 ∧ c.circLo ≤ s.circ 1 := by
  unfold refNums at h
  by_cases q0 : refWheelBad c (s.circ 0) (s.phase 0) = true
  · rw [if_pos q0] at h; cases h
  rw [if_neg q0] at h
  by_cases q1 : refWheelBad c (s.circ 1) (s.phase 1) = true
  · rw [if_pos q1] at h; cases h
  constructor
  · apply Classical.byContradiction; intro hh
    exact q0 (by have : s.circ 0 < c.circLo := by omega
                 simp [refWheelBad, this])
  · apply Classical.byContradiction; intro hh
    exact q1 (by have : s.circ 1 < c.circLo := by omega
                 simp [refWheelBad, this])
theorem refRoute_in {t : Track} {l : List Int} (h : refRoute t l = true) : InT t l := by
  simp only [refRoute] at h
  repeat' split at h
  all_goals first | cases h | exact routeGo_in h
theorem refOn_len {t : Track} {s : RScript} (h : refOn t s = true) : s.ticks.length ≤ 4096 := by
  simp only [refOn] at h
  split at h
  · cases h
  · omega

end
end Go.Ab
namespace Go.Ab
section
variable {ext : Callee}
structure RScript.Sz (s : RScript) : Prop where
  route : s.route.length < 2 ^ 63
  ticks : s.ticks.length < 2 ^ 63
  reads : s.reads.length < 2 ^ 63
  junk : ∀ k ∈ s.ticks, k.junk.length < 2 ^ 63 ∧ ∀ b ∈ k.junk, b.length < 2 ^ 32
theorem refFits_wrong {c : Config} {t : Track} (h : (refFits c t).1 = 0) : refWrong c = 0 := by
  simp only [refFits] at h
  by_cases q : refWrong c = 0
  · exact q
  · rw [if_pos q] at h; cases h
set_option maxHeartbeats 8000000 in
theorem c17 {H : Heap} (c : Config) (t : Track) (s : RScript) (hz : t.Sz) (hs : s.Sz) : callL tab ext 17 [.agg ((Config.enc c).map .d), .agg ((Track.enc t).map .d), .agg ((RScript.enc s).map .d)] H = some (.I (refCheck c t s), H) := by
  have h15 := fun H => c15 (ext := ext) (H := H) c t hz
  have h52 := fun H => c52 (ext := ext) (H := H) t s.route hz hs.route
  rw [cl_17 rfl, B17]
  by_cases q1 : (refFits c t).1 = 0
  · by_cases q2 : refRoute t s.route = true
    · have hin := refRoute_in q2
      have h53 := fun H => c53 (ext := ext) (H := H) t s hin hs.route hs.ticks
      by_cases q3 : refOn t s = true
      · have hn := refOn_len q3
        have h54 := fun H => c54 (ext := ext) (H := H) c s hs.ticks
        have h55 := fun H => c55 (ext := ext) (H := H) c s hs.ticks
        have h57 := fun H => c57 (ext := ext) (H := H) c t s hz hin hs.route hs.ticks hs.reads
        have h58 := fun H => c58 (ext := ext) (H := H) s hs.ticks hs.junk
        by_cases q5 : refNums c s = 0
        · obtain ⟨w1, w2⟩ := refWrong_parts (refFits_wrong q1)
          obtain ⟨n1, n2⟩ := refNums_parts q5
          have hl := fun b1 => l17_0 (ext := ext) c b1 s H hn (by omega) (by omega) (by omega) s.ticks 0 rfl
          simp only [nat_0] at hl
          simp (maxSteps := 4000000) only [ go_sem, ↓reduceIte, Nat.reduceMul, Int.reduceLT, Int.reduceNeg, Int.reduceEq, Int.reduceLE, Int.reduceAdd, Int.reduceSub, Nat.reduceEqDiff, Nat.reduceLeDiff, Nat.reduceLT, Nat.reduceAdd, reduceCtorEq, Config.encC_all, Config.enc_0, Config.enc_1, Config.enc_10, Config.enc_11, Config.enc_12, Config.enc_13, Config.enc_2, Config.enc_3, Config.enc_4, Config.enc_5, Config.enc_6, Config.enc_7, Config.enc_8, Config.enc_9, Config.enc_all, Config.enc_len, Track.encC_all, Track.enc_0, Track.enc_1, Track.enc_all, Track.enc_len, RScript.encC_all, RScript.enc_0, RScript.enc_1, RScript.enc_2, RScript.enc_3, RScript.enc_4, RScript.enc_5, RScript.enc_6, RScript.enc_7, RScript.enc_8, RScript.enc_all, RScript.enc_len, RScript.subC_3_2, RScript.subC_5_2, RScript.sub_3_2, RScript.sub_5_2, List.getElem?_map, Option.map_some, List.length_map, map_clC, map_nmC, ei64_0, eu8_0, eL_0, h15, q1, h52, q2, h53, q3, h54, h55, q5, hl, h57, h58]
          simp only [refCheck, q1, q2, q3, q5]
          all_goals ((repeat' (first | with_reducible rfl | with_reducible contradiction | split)) <;> (first | with_reducible rfl | (simp_all; done) | (simp_all; omega) | omega))
        · simp (maxSteps := 4000000) only [ go_sem, ↓reduceIte, Nat.reduceMul, Int.reduceLT, Int.reduceNeg, Int.reduceEq, Int.reduceLE, Int.reduceAdd, Int.reduceSub, Nat.reduceEqDiff, Nat.reduceLeDiff, Nat.reduceLT, Nat.reduceAdd, reduceCtorEq, Config.encC_all, Config.enc_0, Config.enc_1, Config.enc_10, Config.enc_11, Config.enc_12, Config.enc_13, Config.enc_2, Config.enc_3, Config.enc_4, Config.enc_5, Config.enc_6, Config.enc_7, Config.enc_8, Config.enc_9, Config.enc_all, Config.enc_len, Track.encC_all, Track.enc_0, Track.enc_1, Track.enc_all, Track.enc_len, RScript.encC_all, RScript.enc_0, RScript.enc_1, RScript.enc_2, RScript.enc_3, RScript.enc_4, RScript.enc_5, RScript.enc_6, RScript.enc_7, RScript.enc_8, RScript.enc_all, RScript.enc_len, RScript.subC_3_2, RScript.subC_5_2, RScript.sub_3_2, RScript.sub_5_2, List.getElem?_map, Option.map_some, List.length_map, map_clC, map_nmC, ei64_0, eu8_0, eL_0, h15, q1, h52, q2, h53, q3, h54, h55, q5]
          simp only [refCheck, q1, q2, q3, q5]
          all_goals ((repeat' (first | with_reducible rfl | with_reducible contradiction | split)) <;> (first | with_reducible rfl | (simp_all; done) | (simp_all; omega) | omega))
      · have q3 : refOn t s = false := by simpa using q3
        simp (maxSteps := 4000000) only [ go_sem, ↓reduceIte, Nat.reduceMul, Int.reduceLT, Int.reduceNeg, Int.reduceEq, Int.reduceLE, Int.reduceAdd, Int.reduceSub, Nat.reduceEqDiff, Nat.reduceLeDiff, Nat.reduceLT, Nat.reduceAdd, reduceCtorEq, Config.encC_all, Config.enc_0, Config.enc_1, Config.enc_10, Config.enc_11, Config.enc_12, Config.enc_13, Config.enc_2, Config.enc_3, Config.enc_4, Config.enc_5, Config.enc_6, Config.enc_7, Config.enc_8, Config.enc_9, Config.enc_all, Config.enc_len, Track.encC_all, Track.enc_0, Track.enc_1, Track.enc_all, Track.enc_len, RScript.encC_all, RScript.enc_0, RScript.enc_1, RScript.enc_2, RScript.enc_3, RScript.enc_4, RScript.enc_5, RScript.enc_6, RScript.enc_7, RScript.enc_8, RScript.enc_all, RScript.enc_len, RScript.subC_3_2, RScript.subC_5_2, RScript.sub_3_2, RScript.sub_5_2, List.getElem?_map, Option.map_some, List.length_map, map_clC, map_nmC, ei64_0, eu8_0, eL_0, h15, q1, h52, q2, h53, q3]
        simp only [refCheck, q1, q2, q3]
        all_goals ((repeat' (first | with_reducible rfl | with_reducible contradiction | split)) <;> (first | with_reducible rfl | (simp_all; done) | (simp_all; omega) | omega))
    · have q2 : refRoute t s.route = false := by simpa using q2
      simp (maxSteps := 4000000) only [ go_sem, ↓reduceIte, Nat.reduceMul, Int.reduceLT, Int.reduceNeg, Int.reduceEq, Int.reduceLE, Int.reduceAdd, Int.reduceSub, Nat.reduceEqDiff, Nat.reduceLeDiff, Nat.reduceLT, Nat.reduceAdd, reduceCtorEq, Config.encC_all, Config.enc_0, Config.enc_1, Config.enc_10, Config.enc_11, Config.enc_12, Config.enc_13, Config.enc_2, Config.enc_3, Config.enc_4, Config.enc_5, Config.enc_6, Config.enc_7, Config.enc_8, Config.enc_9, Config.enc_all, Config.enc_len, Track.encC_all, Track.enc_0, Track.enc_1, Track.enc_all, Track.enc_len, RScript.encC_all, RScript.enc_0, RScript.enc_1, RScript.enc_2, RScript.enc_3, RScript.enc_4, RScript.enc_5, RScript.enc_6, RScript.enc_7, RScript.enc_8, RScript.enc_all, RScript.enc_len, RScript.subC_3_2, RScript.subC_5_2, RScript.sub_3_2, RScript.sub_5_2, List.getElem?_map, Option.map_some, List.length_map, map_clC, map_nmC, ei64_0, eu8_0, eL_0, h15, q1, h52, q2]
      simp only [refCheck, q1, q2]
      all_goals ((repeat' (first | with_reducible rfl | with_reducible contradiction | split)) <;> (first | with_reducible rfl | (simp_all; done) | (simp_all; omega) | omega))
  · simp (maxSteps := 4000000) only [ go_sem, ↓reduceIte, Nat.reduceMul, Int.reduceLT, Int.reduceNeg, Int.reduceEq, Int.reduceLE, Int.reduceAdd, Int.reduceSub, Nat.reduceEqDiff, Nat.reduceLeDiff, Nat.reduceLT, Nat.reduceAdd, reduceCtorEq, Config.encC_all, Config.enc_0, Config.enc_1, Config.enc_10, Config.enc_11, Config.enc_12, Config.enc_13, Config.enc_2, Config.enc_3, Config.enc_4, Config.enc_5, Config.enc_6, Config.enc_7, Config.enc_8, Config.enc_9, Config.enc_all, Config.enc_len, Track.encC_all, Track.enc_0, Track.enc_1, Track.enc_all, Track.enc_len, RScript.encC_all, RScript.enc_0, RScript.enc_1, RScript.enc_2, RScript.enc_3, RScript.enc_4, RScript.enc_5, RScript.enc_6, RScript.enc_7, RScript.enc_8, RScript.enc_all, RScript.enc_len, RScript.subC_3_2, RScript.subC_5_2, RScript.sub_3_2, RScript.sub_5_2, List.getElem?_map, Option.map_some, List.length_map, map_clC, map_nmC, ei64_0, eu8_0, eL_0, h15, q1]
    simp only [refCheck, q1]
    all_goals ((repeat' (first | with_reducible rfl | with_reducible contradiction | split)) <;> (first | with_reducible rfl | (simp_all; done) | (simp_all; omega) | omega))

end
end Go.Ab
namespace Go.Ab
section
variable {ext : Callee}
end
end Go.Ab
namespace Go.Ab
section
variable {ext : Callee}
theorem segBig_le : ∀ {l : List Segment}, segBig l = false → ∀ k ∈ l, k.pieces.length ≤ 100 ∧ k.next.length ≤ 3
  | [], _, k, hk => by cases hk
  | x :: r, h, k, hk => by
    simp only [segBig] at h
    by_cases q1 : 100 < (x.pieces.length : Int)
    · rw [if_pos q1] at h; cases h
    rw [if_neg q1] at h
    by_cases q2 : 3 < (x.next.length : Int)
    · rw [if_pos q2] at h; cases h
    rw [if_neg q2] at h
    rcases List.mem_cons.1 hk with rfl | hk
    · omega
    · exact segBig_le h k hk
theorem bytesBig_le : ∀ {l : List (List Int)}, bytesBig l = false → ∀ b ∈ l, b.length ≤ 200
  | [], _, k, hk => by cases hk
  | x :: r, h, k, hk => by
    simp only [bytesBig] at h
    by_cases q1 : 200 < (x.length : Int)
    · rw [if_pos q1] at h; cases h
    rw [if_neg q1] at h
    rcases List.mem_cons.1 hk with rfl | hk
    · omega
    · exact bytesBig_le h k hk
theorem tickBig_le : ∀ {l : List Tick}, tickBig l = false → ∀ k ∈ l, k.junk.length ≤ 50 ∧ ∀ b ∈ k.junk, b.length ≤ 200
  | [], _, k, hk => by cases hk
  | x :: r, h, k, hk => by
    simp only [tickBig] at h
    by_cases q1 : 50 < (x.junk.length : Int)
    · rw [if_pos q1] at h; cases h
    rw [if_neg q1] at h
    by_cases q2 : bytesBig x.junk = true
    · rw [if_pos q2] at h; cases h
    rw [if_neg q2] at h
    rcases List.mem_cons.1 hk with rfl | hk
    · exact ⟨by omega, bytesBig_le (by simpa using q2)⟩
    · exact tickBig_le h k hk
structure Small (t : Track) (s : Script) : Prop where
  segs : t.segments.length ≤ 50
  grps : t.groups.length ≤ 100
  ticks : s.ticks.length ≤ 120
  reads : s.reads.length ≤ 120
  route : s.route.length ≤ 500
  each : ∀ k ∈ t.segments, k.pieces.length ≤ 100 ∧ k.next.length ≤ 3
  junk : ∀ k ∈ s.ticks, k.junk.length ≤ 50 ∧ ∀ b ∈ k.junk, b.length ≤ 200
theorem small_of {t : Track} {s : Script} (h : great t s = false) : Small t s := by
  unfold great at h
  by_cases q1 : 50 < (t.segments.length : Int)
  · rw [if_pos q1] at h; cases h
  rw [if_neg q1] at h
  by_cases q2 : 100 < (t.groups.length : Int)
  · rw [if_pos q2] at h; cases h
  rw [if_neg q2] at h
  by_cases q3 : 120 < (s.ticks.length : Int)
  · rw [if_pos q3] at h; cases h
  rw [if_neg q3] at h
  by_cases q4 : 120 < (s.reads.length : Int)
  · rw [if_pos q4] at h; cases h
  rw [if_neg q4] at h
  by_cases q5 : 500 < (s.route.length : Int)
  · rw [if_pos q5] at h; cases h
  rw [if_neg q5] at h
  by_cases q6 : segBig t.segments = true
  · rw [if_pos q6] at h; cases h
  rw [if_neg q6] at h
  exact ⟨by omega, by omega, by omega, by omega, by omega, segBig_le (by simpa using q6), tickBig_le h⟩
theorem refS_Sz {t : Track} {s : Script} (h : Small t s) : (refS s).Sz := by
  have h1 := h.ticks; have h2 := h.reads; have h3 := h.route
  refine ⟨by simp [refS]; omega, by simp [refS]; omega, by simp [refS]; omega, ?_⟩
  intro k hk
  obtain ⟨z, hz, rfl⟩ := List.mem_map.1 hk
  obtain ⟨j1, j2⟩ := h.junk z hz
  exact ⟨by show z.junk.length < _; omega, fun b hb => by have := j2 b hb; omega⟩
end
end Go.Ab
