/-
  What functions of the program come to.
  Conditions: none.
-/
import Derived.Test.YtnnjmbblpmghfaaGreatSc
set_option linter.unusedSimpArgs false
set_option linter.unusedVariables false
namespace Go.Ab
section
variable {ext : Callee}
def junkAll : Nat → List Tick → Bool
  | _, [] => true
  | i, k :: r => if 27 < (k.junk.length : Int) then false else if junkGo i k.junk = true then junkAll (i + 1) r else false
set_option maxHeartbeats 4000000 in
theorem l69_0 (l : List Tick) (H : Heap) (hn : l.length < 2 ^ 63) (hj : ∀ k ∈ l, k.junk.length < 2 ^ 63 ∧ ∀ b ∈ k.junk, b.length < 2 ^ 63) : ∀ (r : List Tick) (i : Nat), l.drop i = r →
    runL tab ext k69_0 ⟨(upd (upd (upd und 15 (.I i)) 14 (.I l.length)) 13 (VL 11 Tick.enc l)), hp H []⟩ =
    if junkAll i r = true then some (.exit 0, ⟨und, hp H []⟩) else some (.ret, ⟨(upd und 2 (.B false)), hp H []⟩)
  | [], i, hs => by
    have h0 := dr_end hs
    rw [s69_0, b69_0]
    simp (maxSteps := 4000000) only [ go_sem, ↓reduceIte, Nat.reduceMul, Int.reduceLT, Int.reduceNeg, Int.reduceEq, Int.reduceLE, Int.reduceAdd, Int.reduceSub, Nat.reduceEqDiff, Nat.reduceLeDiff, Nat.reduceLT, Nat.reduceAdd, reduceCtorEq, Tick.enc, Tick.encC_all, Tick.enc_0, Tick.enc_1, Tick.enc_10, Tick.enc_2, Tick.enc_3, Tick.enc_4, Tick.enc_5, Tick.enc_6, Tick.enc_7, Tick.enc_8, Tick.enc_9, Tick.enc_all, Tick.enc_len, Tick.subC_1_2, Tick.subC_5_4, Tick.sub_1_2, Tick.sub_5_4, List.getElem?_map, Option.map_some, List.length_map, map_clC, map_nmC, ei64_0, eu8_0, eL_0, h0]
    simp only [junkAll, kst, if_true]
  | k :: r, i, hs => by
    obtain ⟨h1, h2, h3⟩ := dr_cons hs
    have ih := l69_0 l H hn hj r (i + 1) h3
    have h4 := dr_lt h2
    have h5 := w64_inc h2 hn
    obtain ⟨j1, j2⟩ := hj k (List.mem_of_getElem? h1)
    have hg := fun H' => l69_1 (ext := ext) i k.junk l l.length i (hp H H') j1 j2 k.junk 0 rfl
    simp only [nat_0, hp_hp, List.append_nil] at hg
    rw [s69_0, b69_0]
    simp (maxSteps := 4000000) only [ go_sem, ↓reduceIte, Nat.reduceMul, Int.reduceLT, Int.reduceNeg, Int.reduceEq, Int.reduceLE, Int.reduceAdd, Int.reduceSub, Nat.reduceEqDiff, Nat.reduceLeDiff, Nat.reduceLT, Nat.reduceAdd, reduceCtorEq, Tick.enc, Tick.encC_all, Tick.enc_0, Tick.enc_1, Tick.enc_10, Tick.enc_2, Tick.enc_3, Tick.enc_4, Tick.enc_5, Tick.enc_6, Tick.enc_7, Tick.enc_8, Tick.enc_9, Tick.enc_all, Tick.enc_len, Tick.subC_1_2, Tick.subC_5_4, Tick.sub_1_2, Tick.sub_5_4, List.getElem?_map, Option.map_some, List.length_map, map_clC, map_nmC, ei64_0, eu8_0, eL_0, h1, h4, h5, hg, ih]
    simp only [junkAll, kst]
    all_goals ((repeat' (first | with_reducible rfl | with_reducible contradiction | split)) <;> (first | with_reducible rfl | (simp_all; done) | (simp_all; omega) | omega))
set_option maxHeartbeats 4000000 in
theorem c69 {H : Heap} {j : Nat} (c : Config) (t : Track) (s : Script) (tl : List C) (hz : s.Sz) (hH : H[j]? = some ⟨true, AJ c t s tl⟩) : callL tab ext 69 [.c (.ptr j 0)] H = some (.B (junkAll 0 s.ticks), H) := by
  have hl := l69_0 (ext := ext) s.ticks H hz.ticks hz.junk s.ticks 0 rfl
  simp only [nat_0] at hl
  rw [cl_69 rfl, B69]
  simp (maxSteps := 4000000) only [ go_sem, ↓reduceIte, Nat.reduceMul, Int.reduceLT, Int.reduceNeg, Int.reduceEq, Int.reduceLE, Int.reduceAdd, Int.reduceSub, Nat.reduceEqDiff, Nat.reduceLeDiff, Nat.reduceLT, Nat.reduceAdd, reduceCtorEq, List.getElem?_map, Option.map_some, List.length_map, map_clC, map_nmC, ei64_0, eu8_0, eL_0, hl, hp_old hH]
  all_goals ((repeat' (first | with_reducible rfl | with_reducible contradiction | split)) <;> (first | with_reducible rfl | (simp_all; done) | (simp_all; omega) | omega))

end
end Go.Ab
namespace Go.Ab
section
variable {ext : Callee}
def AJz1 (c : Config) : List C := (Config.enc c).map .d ++ [.nil 3, .nil 5, .nil 1, .d (.i .i64 0), .d (.i .i64 0), .d (.i .i64 0), .d (.i .i64 0), .d (.i .i64 0), .d (.i .i64 0), .nil 11, .nil 4, .nil 1, .nil 1, .nil 1]
def AJz2 (c : Config) (t : Track) : List C := (Config.enc c).map .d ++ ((Track.enc t).map .d ++ [.nil 1, .d (.i .i64 0), .d (.i .i64 0), .d (.i .i64 0), .d (.i .i64 0), .d (.i .i64 0), .d (.i .i64 0), .nil 11, .nil 4, .nil 1, .nil 1, .nil 1])
theorem AJ_put1 (c : Config) : putAt [.d (.i .i64 0), .d (.i .i64 0), .d (.i .i64 0), .d (.i .i64 0), .d (.i .i64 0), .d (.i .i64 0), .d (.i .i64 0), .d (.i .i64 0), .d (.i .i64 0), .d (.i .i64 0), .d (.i .i64 0), .d (.i .i64 0), .d (.i .i64 0), .d (.i .i64 0), .nil 3, .nil 5, .nil 1, .d (.i .i64 0), .d (.i .i64 0), .d (.i .i64 0), .d (.i .i64 0), .d (.i .i64 0), .d (.i .i64 0), .nil 11, .nil 4, .nil 1, .nil 1, .nil 1] 0 ((Config.enc c).map .d) = some (AJz1 c) := rfl
theorem AJ_put2 (c : Config) (t : Track) : putAt (AJz1 c) 14 ((Track.enc t).map .d) = some (AJz2 c t) := rfl
theorem AJ_put3 (c : Config) (t : Track) (s : Script) : putAt (AJz2 c t) 16 ((Script.enc s).map .d) = some (AJ c t s [.nil 1, .nil 1, .nil 1]) := rfl
theorem AJ_len28 (c : Config) (t : Track) (s : Script) (a b d : C) : (AJ c t s [a, b, d]).length = 28 := rfl
theorem AJ_set25 (c : Config) (t : Track) (s : Script) (a b d x : C) : (AJ c t s [a, b, d]).set 25 x = AJ c t s [x, b, d] := rfl
theorem AJ_set26 (c : Config) (t : Track) (s : Script) (a b d x : C) : (AJ c t s [a, b, d]).set 26 x = AJ c t s [a, x, d] := rfl
theorem AJ_set27 (c : Config) (t : Track) (s : Script) (a b d x : C) : (AJ c t s [a, b, d]).set 27 x = AJ c t s [a, b, x] := rfl
def admitCheck (c : Config) (t : Track) (s : Script) : Int :=
  if ¬ (cfgFits c t).1 = 0 then 1 else if routeOk t s = false then 2 else if onOk t s = false then 3 else if speedsOk c s = false then 4 else if wheelsOk c s = false then 5 else if numsGo c s.ticks = false then 6 else if allGo c s (counts c s 0) (counts c s 1) 0 s.ticks = false then 7 else if readsGo c t s (placesGo s.start s.ticks) (-1) s.reads = false then 8 else if junkAll 0 s.ticks = false then 9 else 0
theorem routeGo_in {t : Track} : ∀ {r : List Int} {q : Option Int}, routeGo t q r = true → InT t r
  | [], _, _ => fun x hx => by cases hx
  | k :: r, q, h => by
    simp only [routeGo] at h
    by_cases hb : routeBad t q k = true
    · simp [hb] at h
    · rw [if_neg hb] at h
      intro x hx
      rcases List.mem_cons.1 hx with rfl | hx
      · rcases seg_cases t.segments.length x with h1 | ⟨h1, h1'⟩ | ⟨n, h1, h2⟩
        · exact (hb (by simp [routeBad, h1])).elim
        · exact (hb (by simp [routeBad, h1, h1'])).elim
        · exact ⟨n, h1, h2⟩
      · exact routeGo_in h x hx
theorem routeOk_in {t : Track} {s : Script} (h : routeOk t s = true) : InT t s.route := by
  simp only [routeOk] at h
  repeat' split at h
  all_goals first | cases h | exact routeGo_in h
theorem onOk_len {t : Track} {s : Script} (h : onOk t s = true) : s.ticks.length ≤ 4096 := by
  simp only [onOk] at h
  split at h
  · cases h
  · omega
theorem placesGo_len : ∀ (r : List Tick) (a : Int), (placesGo a r).length = r.length
  | [], _ => rfl
  | k :: r, a => by simp [placesGo, placesGo_len r]
theorem countsGo_len (p x : Int) (w : Nat) : ∀ (r : List Tick) (a : Int), (countsGo p x w a r).length = r.length
  | [], _ => rfl
  | k :: r, a => by simp [countsGo, countsGo_len p x w r]
set_option maxHeartbeats 8000000 in
theorem c21 {H : Heap} (c : Config) (t : Track) (s : Script) (hz : t.Sz) (hs : s.Sz) : callL tab ext 21 [.agg ((Config.enc c).map .d), .agg ((Track.enc t).map .d), .agg ((Script.enc s).map .d)] H = some (.I (admitCheck c t s), H) := by
  have hfit := fun H => c46 (ext := ext) (H := H) c t hz
  rw [cl_21 rfl, B21]
  by_cases q1 : (cfgFits c t).1 = 0
  · have hh : ∀ (tl : List C) (a b d : Box) (l : List Box), (hp H (a :: b :: d :: ⟨true, AJ c t s tl⟩ :: l))[pid H 3]? = some ⟨true, AJ c t s tl⟩ := fun tl a b d l => by simp only [hp_get]; rfl
    have h60 := fun tl a b d l => c60 (ext := ext) c t s tl hz hs.route (hh tl a b d l)
    by_cases q2 : routeOk t s = true
    · have hin := routeOk_in q2
      have h61 := fun tl a b d l => c61 (ext := ext) c t s tl hin hs.route hs.ticks (hh tl a b d l)
      by_cases q3 : onOk t s = true
      · have hn := onOk_len q3
        have h62 := fun tl a b d l => c62 (ext := ext) c t s tl hs.ticks (hh tl a b d l)
        have h63 := fun tl a b d l => c63 (ext := ext) c t s tl (hh tl a b d l)
        have h64 := fun tl a b d l => c64 (ext := ext) c t s tl hs.ticks (hh tl a b d l)
        have h65 := fun H => c65 (ext := ext) (H := H) s hn
        have h660 := fun H => c66_0 (ext := ext) (H := H) c s hn
        have h661 := fun H => c66_1 (ext := ext) (H := H) c s hn
        have l0 : (counts c s 0).length = s.ticks.length := countsGo_len _ _ _ _ _
        have l1 : (counts c s 1).length = s.ticks.length := countsGo_len _ _ _ _ _
        have lp : (placesGo s.start s.ticks).length = s.ticks.length := placesGo_len _ _
        have h67 := fun a b d l => c67 (ext := ext) c t s (placesGo s.start s.ticks) (counts c s 0) (counts c s 1) l0 l1 hn (hh _ a b d l)
        have h68 := fun a b d l => c68 (ext := ext) c t s (placesGo s.start s.ticks) (counts c s 0) (counts c s 1) hz hin hs.route lp hn hs.reads (hh _ a b d l)
        have h69 := fun tl a b d l => c69 (ext := ext) c t s tl hs (hh tl a b d l)
        simp only [↓s21_0, b21_0, ↓s21_1, b21_1, ↓r21_11,  go_sem, ↓reduceIte, Nat.reduceMul, Int.reduceLT, Int.reduceNeg, Int.reduceEq, Int.reduceLE, Int.reduceAdd, Int.reduceSub, Nat.reduceEqDiff, Nat.reduceLeDiff, Nat.reduceLT, Nat.reduceAdd, reduceCtorEq, Config.encC_all, Config.enc_0, Config.enc_1, Config.enc_10, Config.enc_11, Config.enc_12, Config.enc_13, Config.enc_2, Config.enc_3, Config.enc_4, Config.enc_5, Config.enc_6, Config.enc_7, Config.enc_8, Config.enc_9, Config.enc_all, Config.enc_len, Track.encC_all, Track.enc_0, Track.enc_1, Track.enc_all, Track.enc_len, Script.encC_all, Script.enc_0, Script.enc_1, Script.enc_2, Script.enc_3, Script.enc_4, Script.enc_5, Script.enc_6, Script.enc_7, Script.enc_8, Script.enc_all, Script.enc_len, Script.subC_3_2, Script.subC_5_2, Script.sub_3_2, Script.sub_5_2, List.getElem?_map, Option.map_some, List.length_map, map_clC, map_nmC, ei64_0, eu8_0, eL_0, hfit, q1, AJ_put1, AJ_put2, AJ_put3, AJ_len28, AJ_set25, AJ_set26, AJ_set27, h60, h61, h62, h63, h64, h65, h660, h661, h67, h68, h69, q2, q3]
        simp only [admitCheck, q1, q2, q3]
        all_goals ((repeat' (first | with_reducible rfl | with_reducible contradiction | split)) <;> (first | with_reducible rfl | (simp_all; done) | (simp_all; omega) | omega))
      · have q3 : onOk t s = false := by simpa using q3
        simp only [↓s21_0, b21_0, ↓r21_11,  go_sem, ↓reduceIte, Nat.reduceMul, Int.reduceLT, Int.reduceNeg, Int.reduceEq, Int.reduceLE, Int.reduceAdd, Int.reduceSub, Nat.reduceEqDiff, Nat.reduceLeDiff, Nat.reduceLT, Nat.reduceAdd, reduceCtorEq, Config.encC_all, Config.enc_0, Config.enc_1, Config.enc_10, Config.enc_11, Config.enc_12, Config.enc_13, Config.enc_2, Config.enc_3, Config.enc_4, Config.enc_5, Config.enc_6, Config.enc_7, Config.enc_8, Config.enc_9, Config.enc_all, Config.enc_len, Track.encC_all, Track.enc_0, Track.enc_1, Track.enc_all, Track.enc_len, Script.encC_all, Script.enc_0, Script.enc_1, Script.enc_2, Script.enc_3, Script.enc_4, Script.enc_5, Script.enc_6, Script.enc_7, Script.enc_8, Script.enc_all, Script.enc_len, Script.subC_3_2, Script.subC_5_2, Script.sub_3_2, Script.sub_5_2, List.getElem?_map, Option.map_some, List.length_map, map_clC, map_nmC, ei64_0, eu8_0, eL_0, hfit, q1, AJ_put1, AJ_put2, AJ_put3, AJ_len28, h60, h61, q2, q3]
        simp only [admitCheck, q1, q2, q3]
        all_goals ((repeat' (first | with_reducible rfl | with_reducible contradiction | split)) <;> (first | with_reducible rfl | (simp_all; done) | (simp_all; omega) | omega))
    · have q2 : routeOk t s = false := by simpa using q2
      simp only [↓s21_0, b21_0, ↓r21_11,  go_sem, ↓reduceIte, Nat.reduceMul, Int.reduceLT, Int.reduceNeg, Int.reduceEq, Int.reduceLE, Int.reduceAdd, Int.reduceSub, Nat.reduceEqDiff, Nat.reduceLeDiff, Nat.reduceLT, Nat.reduceAdd, reduceCtorEq, Config.encC_all, Config.enc_0, Config.enc_1, Config.enc_10, Config.enc_11, Config.enc_12, Config.enc_13, Config.enc_2, Config.enc_3, Config.enc_4, Config.enc_5, Config.enc_6, Config.enc_7, Config.enc_8, Config.enc_9, Config.enc_all, Config.enc_len, Track.encC_all, Track.enc_0, Track.enc_1, Track.enc_all, Track.enc_len, Script.encC_all, Script.enc_0, Script.enc_1, Script.enc_2, Script.enc_3, Script.enc_4, Script.enc_5, Script.enc_6, Script.enc_7, Script.enc_8, Script.enc_all, Script.enc_len, Script.subC_3_2, Script.subC_5_2, Script.sub_3_2, Script.sub_5_2, List.getElem?_map, Option.map_some, List.length_map, map_clC, map_nmC, ei64_0, eu8_0, eL_0, hfit, q1, AJ_put1, AJ_put2, AJ_put3, AJ_len28, h60, q2]
      simp only [admitCheck, q1, q2]
      all_goals ((repeat' (first | with_reducible rfl | with_reducible contradiction | split)) <;> (first | with_reducible rfl | (simp_all; done) | (simp_all; omega) | omega))
  · simp (maxSteps := 4000000) only [go_sem, ↓reduceIte, Nat.reduceMul, Int.reduceLT, Int.reduceNeg, Int.reduceEq, Int.reduceLE, Int.reduceAdd, Int.reduceSub, Nat.reduceEqDiff, Nat.reduceLeDiff, Nat.reduceLT, Nat.reduceAdd, reduceCtorEq, Config.encC_all, Config.enc_0, Config.enc_1, Config.enc_10, Config.enc_11, Config.enc_12, Config.enc_13, Config.enc_2, Config.enc_3, Config.enc_4, Config.enc_5, Config.enc_6, Config.enc_7, Config.enc_8, Config.enc_9, Config.enc_all, Config.enc_len, Track.encC_all, Track.enc_0, Track.enc_1, Track.enc_all, Track.enc_len, Script.encC_all, Script.enc_0, Script.enc_1, Script.enc_2, Script.enc_3, Script.enc_4, Script.enc_5, Script.enc_6, Script.enc_7, Script.enc_8, Script.enc_all, Script.enc_len, Script.subC_3_2, Script.subC_5_2, Script.sub_3_2, Script.sub_5_2, List.getElem?_map, Option.map_some, List.length_map, map_clC, map_nmC, ei64_0, eu8_0, eL_0, hfit, q1]
    simp only [admitCheck, q1]
    all_goals ((repeat' (first | with_reducible rfl | with_reducible contradiction | split)) <;> (first | with_reducible rfl | (simp_all; done) | (simp_all; omega) | omega))

end
end Go.Ab
namespace Go.Ab
section
variable {ext : Callee}
theorem chop_one {sz : Nat} {l : List D} : chop sz 1 l = [l.take sz] := rfl
def usualC : Config := ⟨1024, 131072, 131072, 0, 0, 0, 1000, 100, 0, 1, 128, 0, 5, 2⟩
def zeroC : Config := ⟨0, 0, 0, 0, 0, 0, 0, 0, 0, 0, 0, 0, 0, 0⟩
def ancT : Track := ⟨[⟨9, [⟨0, 0⟩], []⟩], []⟩
def ancS : Script := ⟨[0], 0, 0, fun _ => 131072, fun _ => 0, [], []⟩
def zeroS : Script := ⟨[], 0, 0, fun _ => 0, fun _ => 0, [], []⟩
abbrev usualV : V := .agg [J 1024, J 131072, J 131072, J 0, J 0, J 0, J 1000, J 100, J 0, J 1, J 128, J 0, J 5, J 2]
set_option maxHeartbeats 4000000 in
theorem c59 {H : Heap} : callL tab ext 59 [] H = some (usualV, H) := by
  rw [cl_59 rfl, B59]
  simp (maxSteps := 4000000) only [go_sem, ↓reduceIte, Nat.reduceMul, Int.reduceLT, Int.reduceNeg, Int.reduceEq, Int.reduceLE, Int.reduceAdd, Int.reduceSub, Nat.reduceEqDiff, Nat.reduceLeDiff, Nat.reduceLT, Nat.reduceAdd, reduceCtorEq, List.getElem?_map, Option.map_some, List.length_map, map_clC, map_nmC, ei64_0, eu8_0, eL_0]
theorem ancT_Sz : ancT.Sz := ⟨by decide, by decide, fun s hs => by
  simp only [ancT, List.mem_singleton] at hs
  subst hs; simp⟩
theorem ancS_Sz : ancS.Sz := ⟨by decide, by decide, by decide, fun k hk => by cases hk⟩
theorem zeroS_Sz : zeroS.Sz := ⟨by decide, by decide, by decide, fun k hk => by cases hk⟩
theorem anc1 : admitCheck usualC ancT ancS = 0 := by decide +kernel
theorem anc2 : admitCheck zeroC ancT ancS = 1 := by decide +kernel
theorem anc3 : admitCheck usualC ancT zeroS = 2 := by decide +kernel
set_option maxHeartbeats 4000000 in
theorem c19 {H : Heap} : callL tab ext 19 [] H = some (.B true, H) := by
  have h1 := fun H => c21 (ext := ext) (H := H) usualC ancT ancS ancT_Sz ancS_Sz
  have h2 := fun H => c21 (ext := ext) (H := H) zeroC ancT ancS ancT_Sz ancS_Sz
  have h3 := fun H => c21 (ext := ext) (H := H) usualC ancT zeroS ancT_Sz zeroS_Sz
  rw [anc1] at h1
  rw [anc2] at h2
  rw [anc3] at h3
  simp only [usualC, zeroC, ancT, ancS, zeroS, Config.enc, Track.enc, Script.enc, Segment.enc, Piece.enc, Group.enc, ei64, List.map_cons, List.map_nil] at h1 h2 h3
  rw [cl_19 rfl, B19]
  simp (maxSteps := 4000000) only [↓r19_3,  go_sem, ↓reduceIte, Nat.reduceMul, Int.reduceLT, Int.reduceNeg, Int.reduceEq, Int.reduceLE, Int.reduceAdd, Int.reduceSub, Nat.reduceEqDiff, Nat.reduceLeDiff, Nat.reduceLT, Nat.reduceAdd, reduceCtorEq, List.getElem?_map, Option.map_some, List.length_map, map_clC, map_nmC, ei64_0, eu8_0, eL_0, c59, h1, h2, h3, chop_one]
def segBig : List Segment → Bool
  | [] => false
  | k :: r => if 100 < (k.pieces.length : Int) then true else if 3 < (k.next.length : Int) then true else segBig r
set_option maxHeartbeats 4000000 in
theorem l20_0 (l : List Segment) (b0 b1 : Box) (H : Heap) (hn : l.length < 2 ^ 63) : ∀ (r : List Segment) (i : Nat), l.drop i = r →
    runL tab ext k20_0 ⟨(upd (upd (upd (upd und 42 (.I i)) 41 (.I l.length)) 40 (VL 3 Segment.enc l)) 3 (.c (.ptr (pid H 1) 0))), hp H [b0, b1]⟩ =
    if segBig r = true then some (.ret, ⟨(upd und 4 (.B true)), hp H [b0, b1]⟩) else some (.exit 0, ⟨(upd und 3 (.c (.ptr (pid H 1) 0))), hp H [b0, b1]⟩)
  | [], i, hs => by
    have h0 := dr_end hs
    rw [s20_0, b20_0]
    simp (maxSteps := 4000000) only [ go_sem, ↓reduceIte, Nat.reduceMul, Int.reduceLT, Int.reduceNeg, Int.reduceEq, Int.reduceLE, Int.reduceAdd, Int.reduceSub, Nat.reduceEqDiff, Nat.reduceLeDiff, Nat.reduceLT, Nat.reduceAdd, reduceCtorEq, Segment.enc, Segment.encC_all, Segment.enc_0, Segment.enc_1, Segment.enc_2, Segment.enc_all, Segment.enc_len, List.getElem?_map, Option.map_some, List.length_map, map_clC, map_nmC, ei64_0, eu8_0, eL_0, h0]
    simp only [segBig, kst, Bool.false_eq_true, if_false]
  | k :: r, i, hs => by
    obtain ⟨h1, h2, h3⟩ := dr_cons hs
    have ih := l20_0 l b0 b1 H hn r (i + 1) h3
    have h4 := dr_lt h2
    have h5 := w64_inc h2 hn
    rw [s20_0, b20_0]
    simp (maxSteps := 4000000) only [ go_sem, ↓reduceIte, Nat.reduceMul, Int.reduceLT, Int.reduceNeg, Int.reduceEq, Int.reduceLE, Int.reduceAdd, Int.reduceSub, Nat.reduceEqDiff, Nat.reduceLeDiff, Nat.reduceLT, Nat.reduceAdd, reduceCtorEq, Segment.enc, Segment.encC_all, Segment.enc_0, Segment.enc_1, Segment.enc_2, Segment.enc_all, Segment.enc_len, List.getElem?_map, Option.map_some, List.length_map, map_clC, map_nmC, ei64_0, eu8_0, eL_0, h1, h4, h5, ih]
    simp only [segBig, kst]
    all_goals ((repeat' (first | with_reducible rfl | with_reducible contradiction | split)) <;> (first | with_reducible rfl | (simp_all; done) | (simp_all; omega) | omega))
def bytesBig : List (List Int) → Bool
  | [] => false
  | b :: r => if 200 < (b.length : Int) then true else bytesBig r
set_option maxHeartbeats 4000000 in
theorem l20_2 (l : List (List Int)) (tk : List Tick) (n m : Int) (H : Heap) (hn : l.length < 2 ^ 63) : ∀ (r : List (List Int)) (i : Nat), l.drop i = r →
    runL tab ext k20_2 ⟨(upd (upd (upd (upd (upd (upd und 71 (.I i)) 70 (.I l.length)) 69 (VL 1 (eL 1 eu8) l)) 60 (.I m)) 59 (.I n)) 58 (VL 11 Tick.enc tk)), hp H []⟩ =
    if bytesBig r = true then some (.ret, ⟨(upd und 4 (.B true)), hp H []⟩) else some (.exit 4, ⟨(upd (upd (upd und 60 (.I m)) 59 (.I n)) 58 (VL 11 Tick.enc tk)), hp H []⟩)
  | [], i, hs => by
    have h0 := dr_end hs
    rw [s20_2, b20_2]
    simp (maxSteps := 4000000) only [ go_sem, ↓reduceIte, Nat.reduceMul, Int.reduceLT, Int.reduceNeg, Int.reduceEq, Int.reduceLE, Int.reduceAdd, Int.reduceSub, Nat.reduceEqDiff, Nat.reduceLeDiff, Nat.reduceLT, Nat.reduceAdd, reduceCtorEq, List.getElem?_map, Option.map_some, List.length_map, map_clC, map_nmC, ei64_0, eu8_0, eL_0, h0]
    simp only [bytesBig, kst, Bool.false_eq_true, if_false]
  | b :: r, i, hs => by
    obtain ⟨h1, h2, h3⟩ := dr_cons hs
    have ih := l20_2 l tk n m H hn r (i + 1) h3
    have h4 := dr_lt h2
    have h5 := w64_inc h2 hn
    rw [s20_2, b20_2]
    simp (maxSteps := 4000000) only [ go_sem, ↓reduceIte, Nat.reduceMul, Int.reduceLT, Int.reduceNeg, Int.reduceEq, Int.reduceLE, Int.reduceAdd, Int.reduceSub, Nat.reduceEqDiff, Nat.reduceLeDiff, Nat.reduceLT, Nat.reduceAdd, reduceCtorEq, List.getElem?_map, Option.map_some, List.length_map, map_clC, map_nmC, ei64_0, eu8_0, eL_0, h1, h4, h5, ih]
    simp only [bytesBig, kst]
    all_goals ((repeat' (first | with_reducible rfl | with_reducible contradiction | split)) <;> (first | with_reducible rfl | (simp_all; done) | (simp_all; omega) | omega))
def tickBig : List Tick → Bool
  | [] => false
  | k :: r => if 50 < (k.junk.length : Int) then true else if bytesBig k.junk = true then true else tickBig r
set_option maxHeartbeats 4000000 in
theorem l20_1 (l : List Tick) (H : Heap) (hn : l.length < 2 ^ 63) (hj : ∀ k ∈ l, k.junk.length < 2 ^ 63 ∧ ∀ b ∈ k.junk, b.length < 2 ^ 63) : ∀ (r : List Tick) (i : Nat), l.drop i = r →
    runL tab ext k20_1 ⟨(upd (upd (upd und 60 (.I i)) 59 (.I l.length)) 58 (VL 11 Tick.enc l)), hp H []⟩ =
    if tickBig r = true then some (.ret, ⟨(upd und 4 (.B true)), hp H []⟩) else some (.exit 2, ⟨und, hp H []⟩)
  | [], i, hs => by
    have h0 := dr_end hs
    rw [s20_1, b20_1]
    simp (maxSteps := 4000000) only [ go_sem, ↓reduceIte, Nat.reduceMul, Int.reduceLT, Int.reduceNeg, Int.reduceEq, Int.reduceLE, Int.reduceAdd, Int.reduceSub, Nat.reduceEqDiff, Nat.reduceLeDiff, Nat.reduceLT, Nat.reduceAdd, reduceCtorEq, Tick.enc, Tick.encC_all, Tick.enc_0, Tick.enc_1, Tick.enc_10, Tick.enc_2, Tick.enc_3, Tick.enc_4, Tick.enc_5, Tick.enc_6, Tick.enc_7, Tick.enc_8, Tick.enc_9, Tick.enc_all, Tick.enc_len, Tick.subC_1_2, Tick.subC_5_4, Tick.sub_1_2, Tick.sub_5_4, List.getElem?_map, Option.map_some, List.length_map, map_clC, map_nmC, ei64_0, eu8_0, eL_0, h0]
    simp only [tickBig, kst, Bool.false_eq_true, if_false]
  | k :: r, i, hs => by
    obtain ⟨h1, h2, h3⟩ := dr_cons hs
    have ih := l20_1 l H hn hj r (i + 1) h3
    have h4 := dr_lt h2
    have h5 := w64_inc h2 hn
    obtain ⟨j1, j2⟩ := hj k (List.mem_of_getElem? h1)
    have hg := fun H' => l20_2 (ext := ext) k.junk l l.length i (hp H H') j1 k.junk 0 rfl
    simp only [nat_0, hp_hp, List.append_nil] at hg
    rw [s20_1, b20_1]
    simp (maxSteps := 4000000) only [ go_sem, ↓reduceIte, Nat.reduceMul, Int.reduceLT, Int.reduceNeg, Int.reduceEq, Int.reduceLE, Int.reduceAdd, Int.reduceSub, Nat.reduceEqDiff, Nat.reduceLeDiff, Nat.reduceLT, Nat.reduceAdd, reduceCtorEq, Tick.enc, Tick.encC_all, Tick.enc_0, Tick.enc_1, Tick.enc_10, Tick.enc_2, Tick.enc_3, Tick.enc_4, Tick.enc_5, Tick.enc_6, Tick.enc_7, Tick.enc_8, Tick.enc_9, Tick.enc_all, Tick.enc_len, Tick.subC_1_2, Tick.subC_5_4, Tick.sub_1_2, Tick.sub_5_4, List.getElem?_map, Option.map_some, List.length_map, map_clC, map_nmC, ei64_0, eu8_0, eL_0, h1, h4, h5, hg, ih]
    simp only [tickBig, kst]
    all_goals ((repeat' (first | with_reducible rfl | with_reducible contradiction | split)) <;> (first | with_reducible rfl | (simp_all; done) | (simp_all; omega) | omega))
def great (t : Track) (s : Script) : Bool :=
  if 50 < (t.segments.length : Int) then true else if 100 < (t.groups.length : Int) then true else if 120 < (s.ticks.length : Int) then true else if 120 < (s.reads.length : Int) then true else if 500 < (s.route.length : Int) then true else
  if segBig t.segments = true then true else tickBig s.ticks
set_option maxHeartbeats 4000000 in
theorem c20 {H : Heap} (t : Track) (s : Script) (hz : t.Sz) (hs : s.Sz) : callL tab ext 20 [.agg ((Track.enc t).map .d), .agg ((Script.enc s).map .d)] H = some (.B (great t s), H) := by
  have hl := fun b0 b1 => l20_0 (ext := ext) t.segments b0 b1 H hz.segs t.segments 0 rfl
  have hl2 := fun H' => l20_1 (ext := ext) s.ticks (hp H H') hs.ticks hs.junk s.ticks 0 rfl
  simp only [nat_0, hp_hp, List.append_nil] at hl hl2
  rw [cl_20 rfl, B20]
  simp (maxSteps := 4000000) only [ go_sem, ↓reduceIte, Nat.reduceMul, Int.reduceLT, Int.reduceNeg, Int.reduceEq, Int.reduceLE, Int.reduceAdd, Int.reduceSub, Nat.reduceEqDiff, Nat.reduceLeDiff, Nat.reduceLT, Nat.reduceAdd, reduceCtorEq, Track.encC_all, Track.enc_0, Track.enc_1, Track.enc_all, Track.enc_len, Script.encC_all, Script.enc_0, Script.enc_1, Script.enc_2, Script.enc_3, Script.enc_4, Script.enc_5, Script.enc_6, Script.enc_7, Script.enc_8, Script.enc_all, Script.enc_len, Script.subC_3_2, Script.subC_5_2, Script.sub_3_2, Script.sub_5_2, List.getElem?_map, Option.map_some, List.length_map, map_clC, map_nmC, ei64_0, eu8_0, eL_0, hl, hl2]
  simp only [great]
  all_goals ((repeat' (first | with_reducible rfl | with_reducible contradiction | split)) <;> (first | with_reducible rfl | (simp_all; done) | (simp_all; omega) | omega))

end
end Go.Ab
namespace Go.Ab
section
variable {ext : Callee}
section
variable {c : Callee} {e : Env} {H : Heap} {d : Nat}
def ldtC (e : Env) (H : Heap) (d id off : Nat) (bx : Box) (x : C) : Option St :=
  match x with
  | .own en sz rows => some ⟨upd e d (.c (.own en sz rows)), H.set id ⟨bx.live, bx.cells.set off (.d (.l sz rows))⟩⟩
  | .nil sz => some ⟨upd e d (.c (.nil sz)), H.set id ⟨bx.live, bx.cells.set off (.nil sz)⟩⟩
  | _ => none
theorem ldtC_ownL {α : Type} {id off en sz : Nat} {f : α → List D} {l : List α} {bx : Box} : ldtC e H d id off bx (ownL en sz f l) = some ⟨upd e d (.c (ownL en sz f l)), H.set id ⟨bx.live, bx.cells.set off (ownCl sz f l)⟩⟩ := by
  cases l <;> rfl
theorem set_same {α : Type} {l : List α} {i : Nat} {x : α} (h : l[i]? = some x) : l.set i x = l := by
  apply List.ext_getElem?
  intro j
  rw [List.getElem?_set]
  split
  · rename_i hij; subst hij
    split
    · exact h.symm
    · rename_i hh; exact (hh (List.getElem?_eq_some_iff.1 h).1).elim
  · rfl
theorem step_ldt {a : Opd} : step c ⟨e, H⟩ (.ldt d a) = bX (ev e a) fun u => (match u with
    | .c (.ptr id off) => bO H[id]? fun bx => bO bx.cells[off]? fun x => ldtC e H d id off bx x
    | _ => none) := by
  simp only [step, bX]
  generalize ev e a = u
  cases u with
  | c u => cases u with
    | ptr id off =>
      simp only
      cases hb : H[id]? with
      | none => rfl
      | some bx =>
        simp only [bO]
        cases hx : bx.cells[off]? with
        | none => rfl
        | some x =>
          cases x with
          | own en sz rows => rfl
          | nil sz =>
            simp only [ldtC]
            rw [set_same hx]
            have : (⟨bx.live, bx.cells⟩ : Box) = bx := rfl
            rw [this, set_same hb]
          | _ => rfl
    | _ => rfl
  | _ => rfl
def sttC (e : Env) (H : Heap) (x : Nat) (u w : V) : Option St :=
  match u, w with
  | .c (.ptr id off), .c (.own en sz rows) => bO (stV H 1 (.c (.ptr id off)) [.own en sz rows]) fun H' => some ⟨upd e x (.c (.d (.l sz rows))), H'⟩
  | .c (.ptr id off), .c (.nil sz) => bO (stV H 1 (.c (.ptr id off)) [.nil sz]) fun H' => some ⟨upd e x (.c (.nil sz)), H'⟩
  | _, _ => none
theorem sttC_ownL {α : Type} {x id off en sz : Nat} {f : α → List D} {l : List α} : sttC e H x (.c (.ptr id off)) (.c (ownL en sz f l)) = bO (stV H 1 (.c (.ptr id off)) [ownL en sz f l]) fun H' => some ⟨upd e x (.c (ownCl sz f l)), H'⟩ := by
  cases l <;> rfl
theorem step_stt {a : Opd} {x : Nat} : step c ⟨e, H⟩ (.stt a x) = bX (ev e a) fun u => bX (e x) fun w => sttC e H x u w := by
  simp only [step, bX]
  generalize hw : e x = w
  generalize ev e a = u
  cases u with
  | c u => cases u with
    | ptr id off =>
      cases w with
      | c w => cases w with
        | own en sz rows =>
          simp only [sttC, stV, List.length_cons, List.length_nil, Nat.zero_add, if_true]
          cases storeCells H id off [.own en sz rows] <;> rfl
        | nil sz =>
          simp only [sttC, stV, List.length_cons, List.length_nil, Nat.zero_add, if_true]
          rw [upd_self hw]
          cases storeCells H id off [.nil sz] <;> rfl
        | _ => rfl
      | _ => rfl
    | _ => rfl
  | _ => rfl
end
def b2i (b : Bool) : Int := if b = true then 1 else 0
def refTick (k : Tick) : RTick := ⟨k.v, k.slip, k.rad, k.acc, fun i => b2i (k.lost i), k.junk, b2i k.command⟩
def refS (s : Script) : RScript := ⟨s.route, s.start, s.v0, s.circ, s.phase, s.ticks.map refTick, s.reads⟩
set_option maxHeartbeats 4000000 in
theorem l23_1 (a1 a2 a3 a5 a23 a24 a25 : V) (H : Heap) (b0 b1 b2 b3 : Box) (x0 x1 x2 x3 x4 x9 x10 : C) (p0 p1 p2 p3 : Bool) (l0 l1 l2 l3 : Int) :
    runL tab ext k23_1 ⟨(upd (upd (upd (upd (upd (upd (upd (upd (upd (upd und 42 (.I 0)) 41 (.agg [.d (.b p0), .d (.b p1), .d (.b p2), .d (.b p3)])) 25 (a25)) 24 (a24)) 23 (a23)) 6 (.c (.ptr (pid H 4) 0))) 5 (a5)) 3 (a3)) 2 (a2)) 1 (a1)), hp H [b0, b1, b2, b3, ⟨true, [x0, x1, x2, x3, x4, J l0, J l1, J l2, J l3, x9, x10]⟩]⟩ = some (.exit 2, ⟨(upd (upd (upd (upd (upd (upd (upd (upd und 25 (a25)) 24 (a24)) 23 (a23)) 6 (.c (.ptr (pid H 4) 0))) 5 (a5)) 3 (a3)) 2 (a2)) 1 (a1)), hp H [b0, b1, b2, b3, ⟨true, [x0, x1, x2, x3, x4, J (if p0 = true then 1 else l0), J (if p1 = true then 1 else l1), J (if p2 = true then 1 else l2), J (if p3 = true then 1 else l3), x9, x10]⟩]⟩) := by
  have n4 : ∀ l0 l1 l2 l3 : Int, runL tab ext k23_1 ⟨(upd (upd (upd (upd (upd (upd (upd (upd (upd (upd und 42 (.I 4)) 41 (.agg [.d (.b p0), .d (.b p1), .d (.b p2), .d (.b p3)])) 25 (a25)) 24 (a24)) 23 (a23)) 6 (.c (.ptr (pid H 4) 0))) 5 (a5)) 3 (a3)) 2 (a2)) 1 (a1)), hp H [b0, b1, b2, b3, ⟨true, [x0, x1, x2, x3, x4, J l0, J l1, J l2, J l3, x9, x10]⟩]⟩ = some (.exit 2, ⟨(upd (upd (upd (upd (upd (upd (upd (upd und 25 (a25)) 24 (a24)) 23 (a23)) 6 (.c (.ptr (pid H 4) 0))) 5 (a5)) 3 (a3)) 2 (a2)) 1 (a1)), hp H [b0, b1, b2, b3, ⟨true, [x0, x1, x2, x3, x4, J l0, J l1, J l2, J l3, x9, x10]⟩]⟩) := by
    intro l0 l1 l2 l3
    rw [s23_1, b23_1]
    simp (maxSteps := 4000000) only [ go_sem, ↓reduceIte, Nat.reduceMul, Int.reduceLT, Int.reduceNeg, Int.reduceEq, Int.reduceLE, Int.reduceAdd, Int.reduceSub, Nat.reduceEqDiff, Nat.reduceLeDiff, Nat.reduceLT, Nat.reduceAdd, reduceCtorEq, List.getElem?_map, Option.map_some, List.length_map, map_clC, map_nmC, ei64_0, eu8_0, eL_0]
    simp only [kst]
  have n3 : ∀ l0 l1 l2 l3 : Int, runL tab ext k23_1 ⟨(upd (upd (upd (upd (upd (upd (upd (upd (upd (upd und 42 (.I 3)) 41 (.agg [.d (.b p0), .d (.b p1), .d (.b p2), .d (.b p3)])) 25 (a25)) 24 (a24)) 23 (a23)) 6 (.c (.ptr (pid H 4) 0))) 5 (a5)) 3 (a3)) 2 (a2)) 1 (a1)), hp H [b0, b1, b2, b3, ⟨true, [x0, x1, x2, x3, x4, J l0, J l1, J l2, J l3, x9, x10]⟩]⟩ = some (.exit 2, ⟨(upd (upd (upd (upd (upd (upd (upd (upd und 25 (a25)) 24 (a24)) 23 (a23)) 6 (.c (.ptr (pid H 4) 0))) 5 (a5)) 3 (a3)) 2 (a2)) 1 (a1)), hp H [b0, b1, b2, b3, ⟨true, [x0, x1, x2, x3, x4, J l0, J l1, J l2, J (if p3 = true then 1 else l3), x9, x10]⟩]⟩) := by
    intro l0 l1 l2 l3
    rw [s23_1, b23_1]
    cases p3 <;> simp (maxSteps := 4000000) only [ go_sem, ↓reduceIte, Nat.reduceMul, Int.reduceLT, Int.reduceNeg, Int.reduceEq, Int.reduceLE, Int.reduceAdd, Int.reduceSub, Nat.reduceEqDiff, Nat.reduceLeDiff, Nat.reduceLT, Nat.reduceAdd, reduceCtorEq, List.getElem?_map, Option.map_some, List.length_map, map_clC, map_nmC, ei64_0, eu8_0, eL_0, n4] <;> simp only [kst, Bool.false_eq_true, if_false, if_true]
  have n2 : ∀ l0 l1 l2 l3 : Int, runL tab ext k23_1 ⟨(upd (upd (upd (upd (upd (upd (upd (upd (upd (upd und 42 (.I 2)) 41 (.agg [.d (.b p0), .d (.b p1), .d (.b p2), .d (.b p3)])) 25 (a25)) 24 (a24)) 23 (a23)) 6 (.c (.ptr (pid H 4) 0))) 5 (a5)) 3 (a3)) 2 (a2)) 1 (a1)), hp H [b0, b1, b2, b3, ⟨true, [x0, x1, x2, x3, x4, J l0, J l1, J l2, J l3, x9, x10]⟩]⟩ = some (.exit 2, ⟨(upd (upd (upd (upd (upd (upd (upd (upd und 25 (a25)) 24 (a24)) 23 (a23)) 6 (.c (.ptr (pid H 4) 0))) 5 (a5)) 3 (a3)) 2 (a2)) 1 (a1)), hp H [b0, b1, b2, b3, ⟨true, [x0, x1, x2, x3, x4, J l0, J l1, J (if p2 = true then 1 else l2), J (if p3 = true then 1 else l3), x9, x10]⟩]⟩) := by
    intro l0 l1 l2 l3
    rw [s23_1, b23_1]
    cases p2 <;> simp (maxSteps := 4000000) only [ go_sem, ↓reduceIte, Nat.reduceMul, Int.reduceLT, Int.reduceNeg, Int.reduceEq, Int.reduceLE, Int.reduceAdd, Int.reduceSub, Nat.reduceEqDiff, Nat.reduceLeDiff, Nat.reduceLT, Nat.reduceAdd, reduceCtorEq, List.getElem?_map, Option.map_some, List.length_map, map_clC, map_nmC, ei64_0, eu8_0, eL_0, n3] <;> simp only [kst, Bool.false_eq_true, if_false, if_true]
  have n1 : ∀ l0 l1 l2 l3 : Int, runL tab ext k23_1 ⟨(upd (upd (upd (upd (upd (upd (upd (upd (upd (upd und 42 (.I 1)) 41 (.agg [.d (.b p0), .d (.b p1), .d (.b p2), .d (.b p3)])) 25 (a25)) 24 (a24)) 23 (a23)) 6 (.c (.ptr (pid H 4) 0))) 5 (a5)) 3 (a3)) 2 (a2)) 1 (a1)), hp H [b0, b1, b2, b3, ⟨true, [x0, x1, x2, x3, x4, J l0, J l1, J l2, J l3, x9, x10]⟩]⟩ = some (.exit 2, ⟨(upd (upd (upd (upd (upd (upd (upd (upd und 25 (a25)) 24 (a24)) 23 (a23)) 6 (.c (.ptr (pid H 4) 0))) 5 (a5)) 3 (a3)) 2 (a2)) 1 (a1)), hp H [b0, b1, b2, b3, ⟨true, [x0, x1, x2, x3, x4, J l0, J (if p1 = true then 1 else l1), J (if p2 = true then 1 else l2), J (if p3 = true then 1 else l3), x9, x10]⟩]⟩) := by
    intro l0 l1 l2 l3
    rw [s23_1, b23_1]
    cases p1 <;> simp (maxSteps := 4000000) only [ go_sem, ↓reduceIte, Nat.reduceMul, Int.reduceLT, Int.reduceNeg, Int.reduceEq, Int.reduceLE, Int.reduceAdd, Int.reduceSub, Nat.reduceEqDiff, Nat.reduceLeDiff, Nat.reduceLT, Nat.reduceAdd, reduceCtorEq, List.getElem?_map, Option.map_some, List.length_map, map_clC, map_nmC, ei64_0, eu8_0, eL_0, n2] <;> simp only [kst, Bool.false_eq_true, if_false, if_true]
  rw [s23_1, b23_1]
  cases p0 <;> simp (maxSteps := 4000000) only [ go_sem, ↓reduceIte, Nat.reduceMul, Int.reduceLT, Int.reduceNeg, Int.reduceEq, Int.reduceLE, Int.reduceAdd, Int.reduceSub, Nat.reduceEqDiff, Nat.reduceLeDiff, Nat.reduceLT, Nat.reduceAdd, reduceCtorEq, List.getElem?_map, Option.map_some, List.length_map, map_clC, map_nmC, ei64_0, eu8_0, eL_0, n1] <;> simp only [kst, Bool.false_eq_true, if_false, if_true]
theorem clC_c {x : C} (h : clC x = x) : clC x = x := h
set_option maxHeartbeats 4000000 in
theorem l23_0 (l : List Tick) (b0 b1 : Box) (y0 y1 y2 y3 y4 y5 y6 y8 : C) (H : Heap) (hn : l.length ≤ 4096) : ∀ (r : List Tick) (i : Nat) (acc : List RTick), l.drop i = r → acc.length = i →
    runL tab ext k23_0 ⟨(upd (upd (upd (upd (upd (upd und 25 (.I i)) 24 (.I l.length)) 23 (VL 11 Tick.enc l)) 3 (.c (.ptr (pid H 2) 0))) 2 (.c (.ptr (pid H 1) 0))) 1 (.c (.ptr (pid H 0) 0))), hp H [b0, b1, ⟨true, [y0, y1, y2, y3, y4, y5, y6, ownL 136 11 RTick.enc acc, y8]⟩]⟩ =
    some (.exit 0, ⟨(upd (upd (upd und 3 (.c (.ptr (pid H 2) 0))) 2 (.c (.ptr (pid H 1) 0))) 1 (.c (.ptr (pid H 0) 0))), hp H [b0, b1, ⟨true, [y0, y1, y2, y3, y4, y5, y6, ownL 136 11 RTick.enc (acc ++ r.map refTick), y8]⟩]⟩)
  | [], i, acc, hs, ha => by
    have h0 := dr_end hs
    rw [s23_0, b23_0]
    simp (maxSteps := 4000000) only [ go_sem, ↓reduceIte, Nat.reduceMul, Int.reduceLT, Int.reduceNeg, Int.reduceEq, Int.reduceLE, Int.reduceAdd, Int.reduceSub, Nat.reduceEqDiff, Nat.reduceLeDiff, Nat.reduceLT, Nat.reduceAdd, reduceCtorEq, Tick.enc, Tick.encC_all, Tick.enc_0, Tick.enc_1, Tick.enc_10, Tick.enc_2, Tick.enc_3, Tick.enc_4, Tick.enc_5, Tick.enc_6, Tick.enc_7, Tick.enc_8, Tick.enc_9, Tick.enc_all, Tick.enc_len, Tick.subC_1_2, Tick.subC_5_4, Tick.sub_1_2, Tick.sub_5_4, List.getElem?_map, Option.map_some, List.length_map, map_clC, map_nmC, ei64_0, eu8_0, eL_0, h0]
    simp only [kst, List.map_nil, List.append_nil]
  | k :: r, i, acc, hs, ha => by
    obtain ⟨h1, h2, h3⟩ := dr_cons hs
    have ih := l23_0 l b0 b1 y0 y1 y2 y3 y4 y5 y6 y8 H hn r (i + 1) (acc ++ [refTick k]) h3 (by simp [ha])
    have h4 := dr_lt h2
    have h5 := w64_inc h2 (by omega)
    have h6 := app_ok h2 hn 104 (by omega)
    have hin := fun a1 a2 a3 a5 a23 a24 a25 b3 b4 b5 b6 x0 x1 x2 x3 x4 x9 x10 => l23_1 (ext := ext) a1 a2 a3 a5 a23 a24 a25 H b3 b4 b5 b6 x0 x1 x2 x3 x4 x9 x10 (k.lost 0) (k.lost 1) (k.lost 2) (k.lost 3) 0 0 0 0
    have hz : ∀ c : Int, c = b2i k.command → [D.i .i64 k.v, .i .i64 (k.slip 0), .i .i64 (k.slip 1), .i .i64 k.rad, .i .i64 k.acc, .i .i64 (if k.lost 0 = true then 1 else 0), .i .i64 (if k.lost 1 = true then 1 else 0), .i .i64 (if k.lost 2 = true then 1 else 0), .i .i64 (if k.lost 3 = true then 1 else 0), .l 1 (k.junk.map (eL 1 eu8)), .i .i64 c] = RTick.enc (refTick k) := by
      intro c hc; subst hc; rfl
    rw [s23_0, b23_0]
    cases hc : k.command with
    | true =>
      have hap := fun e H d bytes x (l : List RTick) => app_own1 (e := e) (H := H) (d := d) (en := 136) (sz := 11) (bytes := bytes) (x := x) (f := RTick.enc) (l := l) (hz 1 (by rw [hc]; rfl))
      simp (maxSteps := 4000000) only [ go_sem, ↓reduceIte, Nat.reduceMul, Int.reduceLT, Int.reduceNeg, Int.reduceEq, Int.reduceLE, Int.reduceAdd, Int.reduceSub, Nat.reduceEqDiff, Nat.reduceLeDiff, Nat.reduceLT, Nat.reduceAdd, reduceCtorEq, Tick.enc, Tick.encC_all, Tick.enc_0, Tick.enc_1, Tick.enc_10, Tick.enc_2, Tick.enc_3, Tick.enc_4, Tick.enc_5, Tick.enc_6, Tick.enc_7, Tick.enc_8, Tick.enc_9, Tick.enc_all, Tick.enc_len, Tick.subC_1_2, Tick.subC_5_4, Tick.sub_1_2, Tick.sub_5_4, List.getElem?_map, Option.map_some, List.length_map, map_clC, map_nmC, ei64_0, eu8_0, eL_0, step_ldt, ldtC_ownL, step_stt, sttC_ownL, chop_one, h1, h4, h5, h6, ha, hc, hin, hap, ih]
      simp only [kst, List.map_cons, List.append_assoc, List.singleton_append]
    | false =>
      have hap := fun e H d bytes x (l : List RTick) => app_own1 (e := e) (H := H) (d := d) (en := 136) (sz := 11) (bytes := bytes) (x := x) (f := RTick.enc) (l := l) (hz 0 (by rw [hc]; rfl))
      simp (maxSteps := 4000000) only [ go_sem, ↓reduceIte, Nat.reduceMul, Int.reduceLT, Int.reduceNeg, Int.reduceEq, Int.reduceLE, Int.reduceAdd, Int.reduceSub, Nat.reduceEqDiff, Nat.reduceLeDiff, Nat.reduceLT, Nat.reduceAdd, reduceCtorEq, Tick.enc, Tick.encC_all, Tick.enc_0, Tick.enc_1, Tick.enc_10, Tick.enc_2, Tick.enc_3, Tick.enc_4, Tick.enc_5, Tick.enc_6, Tick.enc_7, Tick.enc_8, Tick.enc_9, Tick.enc_all, Tick.enc_len, Tick.subC_1_2, Tick.subC_5_4, Tick.sub_1_2, Tick.sub_5_4, List.getElem?_map, Option.map_some, List.length_map, map_clC, map_nmC, ei64_0, eu8_0, eL_0, step_ldt, ldtC_ownL, step_stt, sttC_ownL, chop_one, h1, h4, h5, h6, ha, hc, hin, hap, ih]
      simp only [kst, List.map_cons, List.append_assoc, List.singleton_append]
set_option maxHeartbeats 4000000 in
theorem l23_2 (l : List Read) (b0 b1 : Box) (y0 y1 y2 y3 y4 y5 y6 y7 : C) (H : Heap) (hn : l.length ≤ 4096) : ∀ (r : List Read) (i : Nat) (acc : List Read), l.drop i = r → acc.length = i →
    runL tab ext k23_2 ⟨(upd (upd (upd (upd (upd und 64 (.I i)) 63 (.I l.length)) 62 (VL 4 Read.enc l)) 3 (.c (.ptr (pid H 2) 0))) 2 (.c (.ptr (pid H 1) 0))), hp H [b0, b1, ⟨true, [y0, y1, y2, y3, y4, y5, y6, y7, ownL 72 4 Read.enc acc]⟩]⟩ =
    some (.exit 4, ⟨(upd (upd und 3 (.c (.ptr (pid H 2) 0))) 2 (.c (.ptr (pid H 1) 0))), hp H [b0, b1, ⟨true, [y0, y1, y2, y3, y4, y5, y6, y7, ownL 72 4 Read.enc (acc ++ r)]⟩]⟩)
  | [], i, acc, hs, ha => by
    have h0 := dr_end hs
    rw [s23_2, b23_2]
    simp (maxSteps := 4000000) only [ go_sem, ↓reduceIte, Nat.reduceMul, Int.reduceLT, Int.reduceNeg, Int.reduceEq, Int.reduceLE, Int.reduceAdd, Int.reduceSub, Nat.reduceEqDiff, Nat.reduceLeDiff, Nat.reduceLT, Nat.reduceAdd, reduceCtorEq, Read.enc, Read.encC_all, Read.enc_0, Read.enc_1, Read.enc_2, Read.enc_3, Read.enc_all, Read.enc_len, List.getElem?_map, Option.map_some, List.length_map, map_clC, map_nmC, ei64_0, eu8_0, eL_0, h0]
    simp only [kst, List.append_nil]
  | k :: r, i, acc, hs, ha => by
    obtain ⟨h1, h2, h3⟩ := dr_cons hs
    have ih := l23_2 l b0 b1 y0 y1 y2 y3 y4 y5 y6 y7 H hn r (i + 1) (acc ++ [k]) h3 (by simp [ha])
    have h4 := dr_lt h2
    have h5 := w64_inc h2 (by omega)
    have h6 := app_ok h2 hn 32 (by omega)
    have hz : [D.i .i64 k.cycle, .i .i64 k.index, .i .i64 k.group, .i .i64 k.point] = Read.enc k := rfl
    have hap := fun e H d bytes x (l : List Read) => app_own1 (e := e) (H := H) (d := d) (en := 72) (sz := 4) (bytes := bytes) (x := x) (f := Read.enc) (l := l) hz
    rw [s23_2, b23_2]
    simp (maxSteps := 4000000) only [ go_sem, ↓reduceIte, Nat.reduceMul, Int.reduceLT, Int.reduceNeg, Int.reduceEq, Int.reduceLE, Int.reduceAdd, Int.reduceSub, Nat.reduceEqDiff, Nat.reduceLeDiff, Nat.reduceLT, Nat.reduceAdd, reduceCtorEq, Read.enc, Read.encC_all, Read.enc_0, Read.enc_1, Read.enc_2, Read.enc_3, Read.enc_all, Read.enc_len, List.getElem?_map, Option.map_some, List.length_map, map_clC, map_nmC, ei64_0, eu8_0, eL_0, step_ldt, ldtC_ownL, step_stt, sttC_ownL, chop_one, h1, h4, h5, h6, ha, hap, ih]
    simp only [kst, List.append_assoc, List.singleton_append]
set_option maxHeartbeats 4000000 in
theorem c23 {H : Heap} (s : Script) (hn : s.ticks.length ≤ 4096) (hr : s.reads.length ≤ 4096) : callL tab ext 23 [.agg ((Script.enc s).map .d)] H = some (.agg ((RScript.enc (refS s)).map .d), H) := by
  have hl := fun b0 b1 y0 y1 y2 y3 y4 y5 y6 y8 => l23_0 (ext := ext) s.ticks b0 b1 y0 y1 y2 y3 y4 y5 y6 y8 H hn s.ticks 0 [] rfl rfl
  have hl2 := fun b0 b1 y0 y1 y2 y3 y4 y5 y6 y7 => l23_2 (ext := ext) s.reads b0 b1 y0 y1 y2 y3 y4 y5 y6 y7 H hr s.reads 0 [] rfl rfl
  simp only [nat_0, ownL_0, List.nil_append] at hl hl2
  rw [cl_23 rfl, B23]
  simp (maxSteps := 4000000) only [ go_sem, ↓reduceIte, Nat.reduceMul, Int.reduceLT, Int.reduceNeg, Int.reduceEq, Int.reduceLE, Int.reduceAdd, Int.reduceSub, Nat.reduceEqDiff, Nat.reduceLeDiff, Nat.reduceLT, Nat.reduceAdd, reduceCtorEq, Script.encC_all, Script.enc_0, Script.enc_1, Script.enc_2, Script.enc_3, Script.enc_4, Script.enc_5, Script.enc_6, Script.enc_7, Script.enc_8, Script.enc_all, Script.enc_len, Script.subC_3_2, Script.subC_5_2, Script.sub_3_2, Script.sub_5_2, List.getElem?_map, Option.map_some, List.length_map, map_clC, map_nmC, ei64_0, eu8_0, eL_0, hl, hl2]
  rfl

end
end Go.Ab
namespace Go.Ab
section
variable {ext : Callee}
def far (x m : Int) : Bool := if x < w64 (0 - m) then true else decide (m < x)
set_option maxHeartbeats 4000000 in
theorem c77 {H : Heap} (x m : Int) : callL tab ext 77 [.I x, .I m] H = some (.B (far x m), H) := by
  rw [cl_77 rfl, B77]
  simp (maxSteps := 4000000) only [go_sem, ↓reduceIte, Nat.reduceMul, Int.reduceLT, Int.reduceNeg, Int.reduceEq, Int.reduceLE, Int.reduceAdd, Int.reduceSub, Nat.reduceEqDiff, Nat.reduceLeDiff, Nat.reduceLT, Nat.reduceAdd, reduceCtorEq, List.getElem?_map, Option.map_some, List.length_map, map_clC, map_nmC, ei64_0, eu8_0, eL_0]
  try simp only [far]
  all_goals ((repeat' (first | with_reducible rfl | with_reducible contradiction | split)) <;> (first | with_reducible rfl | (simp_all; done) | (simp_all; omega) | omega))
def refErr (c : Config) (r : Int) : Int := w64 (c.radBase + w64 ((w64 ((if r < 0 then w64 (0 - r) else r) * c.radPart)).tdiv 1048576))
set_option maxHeartbeats 4000000 in
theorem c78 {H : Heap} (c : Config) (r : Int) : callL tab ext 78 [.agg ((Config.enc c).map .d), .I r] H = some (.I (refErr c r), H) := by
  have h0 : ((1048576 : Int) = 0) = False := by simp
  rw [cl_78 rfl, B78]
  by_cases h : r < 0
  · simp (maxSteps := 4000000) only [go_sem, ↓reduceIte, Nat.reduceMul, Int.reduceLT, Int.reduceNeg, Int.reduceEq, Int.reduceLE, Int.reduceAdd, Int.reduceSub, Nat.reduceEqDiff, Nat.reduceLeDiff, Nat.reduceLT, Nat.reduceAdd, reduceCtorEq, Config.encC_all, Config.enc_0, Config.enc_1, Config.enc_10, Config.enc_11, Config.enc_12, Config.enc_13, Config.enc_2, Config.enc_3, Config.enc_4, Config.enc_5, Config.enc_6, Config.enc_7, Config.enc_8, Config.enc_9, Config.enc_all, Config.enc_len, List.getElem?_map, Option.map_some, List.length_map, map_clC, map_nmC, ei64_0, eu8_0, eL_0, h, h0]
    simp only [refErr, if_pos h]
  · simp (maxSteps := 4000000) only [go_sem, ↓reduceIte, Nat.reduceMul, Int.reduceLT, Int.reduceNeg, Int.reduceEq, Int.reduceLE, Int.reduceAdd, Int.reduceSub, Nat.reduceEqDiff, Nat.reduceLeDiff, Nat.reduceLT, Nat.reduceAdd, reduceCtorEq, Config.encC_all, Config.enc_0, Config.enc_1, Config.enc_10, Config.enc_11, Config.enc_12, Config.enc_13, Config.enc_2, Config.enc_3, Config.enc_4, Config.enc_5, Config.enc_6, Config.enc_7, Config.enc_8, Config.enc_9, Config.enc_all, Config.enc_len, List.getElem?_map, Option.map_some, List.length_map, map_clC, map_nmC, ei64_0, eu8_0, eL_0, h, h0]
    simp only [refErr, if_neg h]
def refRadar (c : Config) (r : Int) : Int × Int := (w64 (r - refErr c r), w64 (r + refErr c r))
set_option maxHeartbeats 4000000 in
theorem c79 {H : Heap} (c : Config) (r : Int) : callL tab ext 79 [.agg ((Config.enc c).map .d), .I r] H = some (.tup [.I (refRadar c r).1, .I (refRadar c r).2], H) := by
  rw [cl_79 rfl, B79]
  simp (maxSteps := 4000000) only [go_sem, ↓reduceIte, Nat.reduceMul, Int.reduceLT, Int.reduceNeg, Int.reduceEq, Int.reduceLE, Int.reduceAdd, Int.reduceSub, Nat.reduceEqDiff, Nat.reduceLeDiff, Nat.reduceLT, Nat.reduceAdd, reduceCtorEq, Config.encC_all, Config.enc_0, Config.enc_1, Config.enc_10, Config.enc_11, Config.enc_12, Config.enc_13, Config.enc_2, Config.enc_3, Config.enc_4, Config.enc_5, Config.enc_6, Config.enc_7, Config.enc_8, Config.enc_9, Config.enc_all, Config.enc_len, List.getElem?_map, Option.map_some, List.length_map, map_clC, map_nmC, ei64_0, eu8_0, eL_0, c78]
  try simp only [refRadar]
  all_goals ((repeat' (first | with_reducible rfl | with_reducible contradiction | split)) <;> (first | with_reducible rfl | (simp_all; done) | (simp_all; omega) | omega))
def rDown (a b : Int) : Int := if a.tmod b < 0 then w64 (w64 (a.tdiv b) - 1) else w64 (a.tdiv b)
set_option maxHeartbeats 4000000 in
theorem c118 {H : Heap} (a b : Int) (hb : (b = 0) = False) : callL tab ext 118 [.I a, .I b] H = some (.I (rDown a b), H) := by
  rw [cl_118 rfl, B118]
  simp (maxSteps := 4000000) only [go_sem, ↓reduceIte, Nat.reduceMul, Int.reduceLT, Int.reduceNeg, Int.reduceEq, Int.reduceLE, Int.reduceAdd, Int.reduceSub, Nat.reduceEqDiff, Nat.reduceLeDiff, Nat.reduceLT, Nat.reduceAdd, reduceCtorEq, List.getElem?_map, Option.map_some, List.length_map, map_clC, map_nmC, ei64_0, eu8_0, eL_0, hb]
  try simp only [rDown]
  all_goals ((repeat' (first | with_reducible rfl | with_reducible contradiction | split)) <;> (first | with_reducible rfl | (simp_all; done) | (simp_all; omega) | omega))
def rUp (a b : Int) : Int := w64 (0 - rDown (w64 (0 - a)) b)
set_option maxHeartbeats 4000000 in
theorem c119 {H : Heap} (a b : Int) (hb : (b = 0) = False) : callL tab ext 119 [.I a, .I b] H = some (.I (rUp a b), H) := by
  rw [cl_119 rfl, B119]
  simp (maxSteps := 4000000) only [go_sem, ↓reduceIte, Nat.reduceMul, Int.reduceLT, Int.reduceNeg, Int.reduceEq, Int.reduceLE, Int.reduceAdd, Int.reduceSub, Nat.reduceEqDiff, Nat.reduceLeDiff, Nat.reduceLT, Nat.reduceAdd, reduceCtorEq, List.getElem?_map, Option.map_some, List.length_map, map_clC, map_nmC, ei64_0, eu8_0, eL_0, c118 _ _ hb]
  try simp only [rUp]
  all_goals ((repeat' (first | with_reducible rfl | with_reducible contradiction | split)) <;> (first | with_reducible rfl | (simp_all; done) | (simp_all; omega) | omega))
def rDelta (a b : Int) : Int := if 32768 ≤ (w64 (w64 (b - a) + 65536)).tmod 65536 then w64 ((w64 (w64 (b - a) + 65536)).tmod 65536 - 65536) else (w64 (w64 (b - a) + 65536)).tmod 65536
theorem n65536 : ((65536 : Int) = 0) = False := by simp
set_option maxHeartbeats 4000000 in
theorem c81 {H : Heap} (a b : Int) : callL tab ext 81 [.I a, .I b] H = some (.I (rDelta a b), H) := by
  rw [cl_81 rfl, B81]
  simp (maxSteps := 4000000) only [go_sem, ↓reduceIte, Nat.reduceMul, Int.reduceLT, Int.reduceNeg, Int.reduceEq, Int.reduceLE, Int.reduceAdd, Int.reduceSub, Nat.reduceEqDiff, Nat.reduceLeDiff, Nat.reduceLT, Nat.reduceAdd, reduceCtorEq, List.getElem?_map, Option.map_some, List.length_map, map_clC, map_nmC, ei64_0, eu8_0, eL_0, n65536]
  try simp only [rDelta]
  all_goals ((repeat' (first | with_reducible rfl | with_reducible contradiction | split)) <;> (first | with_reducible rfl | (simp_all; done) | (simp_all; omega) | omega))
def rTacho (d lo hi p : Int) : Int × Int := (if d < 1 then rDown (w64 (w64 (d - 1) * hi)) p else rDown (w64 (w64 (d - 1) * lo)) p, if d < -1 then rUp (w64 (w64 (d + 1) * lo)) p else rUp (w64 (w64 (d + 1) * hi)) p)
set_option maxHeartbeats 4000000 in
theorem c82 {H : Heap} (d lo hi p : Int) (hp' : (p = 0) = False) : callL tab ext 82 [.I d, .I lo, .I hi, .I p] H = some (.tup [.I (rTacho d lo hi p).1, .I (rTacho d lo hi p).2], H) := by
  rw [cl_82 rfl, B82]
  simp (maxSteps := 4000000) only [go_sem, ↓reduceIte, Nat.reduceMul, Int.reduceLT, Int.reduceNeg, Int.reduceEq, Int.reduceLE, Int.reduceAdd, Int.reduceSub, Nat.reduceEqDiff, Nat.reduceLeDiff, Nat.reduceLT, Nat.reduceAdd, reduceCtorEq, List.getElem?_map, Option.map_some, List.length_map, map_clC, map_nmC, ei64_0, eu8_0, eL_0, c118 _ _ hp', c119 _ _ hp']
  try simp only [rTacho]
  all_goals ((repeat' (first | with_reducible rfl | with_reducible contradiction | split)) <;> (first | with_reducible rfl | (simp_all; done) | (simp_all; omega) | omega))
def turnGo (p : Int) (w : Nat) : Int → List RTick → Int
  | a, [] => a
  | a, k :: r => turnGo p w (w64 (w64 (a + w64 (p * k.v)) + k.slip w)) r
theorem take_get {α : Type} {l : List α} {n i : Nat} {k : α} (h : (l.take n)[i]? = some k) : l[i]? = some k := by
  rw [List.getElem?_take] at h
  split at h
  · exact h
  · cases h
set_option maxHeartbeats 4000000 in
theorem l80_0 (p : Int) (s : RScript) (w n : Nat) (hw : w = 0 ∨ w = 1) (hn : n ≤ s.ticks.length) (hk : s.ticks.length ≤ 4096) (H : Heap) : ∀ (r : List RTick) (i : Nat) (a : Int), (s.ticks.take n).drop i = r →
    runL tab ext k80_0 ⟨(upd (upd (upd (upd (upd (upd und 10 (.I i)) 9 (.I a)) 4 (.c (.ptr (pid H 0) 0))) 3 (.I n)) 2 (.I w)) 1 (.I p)), hp H [⟨true, (RScript.enc s).map .d⟩]⟩ =
    some (.exit 0, ⟨(upd (upd (upd und 9 (.I (turnGo p w a r))) 4 (.c (.ptr (pid H 0) 0))) 2 (.I w)), hp H [⟨true, (RScript.enc s).map .d⟩]⟩)
  | [], i, a, hs => by
    have h0 : ((i : Int) < (n : Int)) = False := by
      have := dr_end hs; simp only [List.length_take, Nat.min_eq_left hn] at this; exact this
    rw [s80_0, b80_0]
    simp (maxSteps := 4000000) only [↓r80_5,  go_sem, ↓reduceIte, Nat.reduceMul, Int.reduceLT, Int.reduceNeg, Int.reduceEq, Int.reduceLE, Int.reduceAdd, Int.reduceSub, Nat.reduceEqDiff, Nat.reduceLeDiff, Nat.reduceLT, Nat.reduceAdd, reduceCtorEq, RScript.encC_all, RScript.enc_0, RScript.enc_1, RScript.enc_2, RScript.enc_3, RScript.enc_4, RScript.enc_5, RScript.enc_6, RScript.enc_7, RScript.enc_8, RScript.enc_all, RScript.enc_len, RScript.subC_3_2, RScript.subC_5_2, RScript.sub_3_2, RScript.sub_5_2, List.getElem?_map, Option.map_some, List.length_map, map_clC, map_nmC, ei64_0, eu8_0, eL_0, h0]
    simp only [turnGo, kst]
  | k :: r, i, a, hs => by
    obtain ⟨h1, h2, h3⟩ := dr_cons hs
    simp only [List.length_take, Nat.min_eq_left hn] at h2
    have h1 := take_get h1
    have ih := l80_0 p s w n hw hn hk H r (i + 1) (w64 (w64 (a + w64 (p * k.v)) + k.slip w)) h3
    have h4 := dr_lt h2
    have h5 := w64_inc h2 (by omega)
    rw [s80_0, b80_0]
    rcases hw with rfl | rfl
    · simp only [nat_0] at ih ⊢
      simp (maxSteps := 4000000) only [↓r80_5,  go_sem, ↓reduceIte, Nat.reduceMul, Int.reduceLT, Int.reduceNeg, Int.reduceEq, Int.reduceLE, Int.reduceAdd, Int.reduceSub, Nat.reduceEqDiff, Nat.reduceLeDiff, Nat.reduceLT, Nat.reduceAdd, reduceCtorEq, RScript.encC_all, RScript.enc_0, RScript.enc_1, RScript.enc_2, RScript.enc_3, RScript.enc_4, RScript.enc_5, RScript.enc_6, RScript.enc_7, RScript.enc_8, RScript.enc_all, RScript.enc_len, RScript.subC_3_2, RScript.subC_5_2, RScript.sub_3_2, RScript.sub_5_2, RTick.encC_all, RTick.enc_0, RTick.enc_1, RTick.enc_10, RTick.enc_2, RTick.enc_3, RTick.enc_4, RTick.enc_5, RTick.enc_6, RTick.enc_7, RTick.enc_8, RTick.enc_9, RTick.enc_all, RTick.enc_len, RTick.subC_1_2, RTick.subC_5_4, RTick.sub_1_2, RTick.sub_5_4, List.getElem?_map, Option.map_some, List.length_map, map_clC, map_nmC, ei64_0, eu8_0, eL_0, h1, h4, h5, ih]
      simp only [turnGo, kst]
    · simp only [nat_1] at ih ⊢
      simp (maxSteps := 4000000) only [↓r80_5,  go_sem, ↓reduceIte, Nat.reduceMul, Int.reduceLT, Int.reduceNeg, Int.reduceEq, Int.reduceLE, Int.reduceAdd, Int.reduceSub, Nat.reduceEqDiff, Nat.reduceLeDiff, Nat.reduceLT, Nat.reduceAdd, reduceCtorEq, RScript.encC_all, RScript.enc_0, RScript.enc_1, RScript.enc_2, RScript.enc_3, RScript.enc_4, RScript.enc_5, RScript.enc_6, RScript.enc_7, RScript.enc_8, RScript.enc_all, RScript.enc_len, RScript.subC_3_2, RScript.subC_5_2, RScript.sub_3_2, RScript.sub_5_2, RTick.encC_all, RTick.enc_0, RTick.enc_1, RTick.enc_10, RTick.enc_2, RTick.enc_3, RTick.enc_4, RTick.enc_5, RTick.enc_6, RTick.enc_7, RTick.enc_8, RTick.enc_9, RTick.enc_all, RTick.enc_len, RTick.subC_1_2, RTick.subC_5_4, RTick.sub_1_2, RTick.sub_5_4, List.getElem?_map, Option.map_some, List.length_map, map_clC, map_nmC, ei64_0, eu8_0, eL_0, h1, h4, h5, ih]
      simp only [turnGo, kst]
def rCount (s : RScript) (p : Int) (w n : Nat) : Int := rDown (turnGo p w (s.phase w) (s.ticks.take n)) (s.circ w)
set_option maxHeartbeats 4000000 in
theorem c80 {H : Heap} (s : RScript) (p : Int) (w n : Nat) (hw : w = 0 ∨ w = 1) (hc : (s.circ w = 0) = False) (hn : n ≤ s.ticks.length) (hk : s.ticks.length ≤ 4096) : callL tab ext 80 [.agg ((RScript.enc s).map .d), .I p, .I w, .I n] H = some (.I (rCount s p w n), H) := by
  have hl := fun a => l80_0 (ext := ext) p s w n hw hn hk H (s.ticks.take n) 0 a rfl
  have hd := fun H a => c118 (ext := ext) (H := H) a (s.circ w) hc
  rw [cl_80 rfl, B80]
  rcases hw with rfl | rfl
  · simp only [nat_0] at hl ⊢
    simp (maxSteps := 4000000) only [↓r80_5,  go_sem, ↓reduceIte, Nat.reduceMul, Int.reduceLT, Int.reduceNeg, Int.reduceEq, Int.reduceLE, Int.reduceAdd, Int.reduceSub, Nat.reduceEqDiff, Nat.reduceLeDiff, Nat.reduceLT, Nat.reduceAdd, reduceCtorEq, RScript.encC_all, RScript.enc_0, RScript.enc_1, RScript.enc_2, RScript.enc_3, RScript.enc_4, RScript.enc_5, RScript.enc_6, RScript.enc_7, RScript.enc_8, RScript.enc_all, RScript.enc_len, RScript.subC_3_2, RScript.subC_5_2, RScript.sub_3_2, RScript.sub_5_2, List.getElem?_map, Option.map_some, List.length_map, map_clC, map_nmC, ei64_0, eu8_0, eL_0, hl, hd]
    simp only [rCount]
  · simp only [nat_0, nat_1] at hl ⊢
    simp (maxSteps := 4000000) only [↓r80_5,  go_sem, ↓reduceIte, Nat.reduceMul, Int.reduceLT, Int.reduceNeg, Int.reduceEq, Int.reduceLE, Int.reduceAdd, Int.reduceSub, Nat.reduceEqDiff, Nat.reduceLeDiff, Nat.reduceLT, Nat.reduceAdd, reduceCtorEq, RScript.encC_all, RScript.enc_0, RScript.enc_1, RScript.enc_2, RScript.enc_3, RScript.enc_4, RScript.enc_5, RScript.enc_6, RScript.enc_7, RScript.enc_8, RScript.enc_all, RScript.enc_len, RScript.subC_3_2, RScript.subC_5_2, RScript.sub_3_2, RScript.sub_5_2, List.getElem?_map, Option.map_some, List.length_map, map_clC, map_nmC, ei64_0, eu8_0, eL_0, hl, hd]
    simp only [rCount]
def fitR (y : RTick) (q : Option RTick) (i : Nat) : Bool := if ¬ y.lost i = 0 then false else if i = 2 then true else match q with
  | none => false
  | some z => decide (z.lost i = 0)
set_option maxHeartbeats 4000000 in
theorem c30 {H : Heap} (s : RScript) (i k : Nat) (y : RTick) (q : Option RTick) (hi : i = 0 ∨ i = 1 ∨ i = 2) (hy : s.ticks[k]? = some y) (hq : q = prevOf s.ticks k) (hn : s.ticks.length ≤ 4096) : callL tab ext 30 [.agg ((RScript.enc s).map .d), .I i, .I k] H = some (.B (fitR y q i), H) := by
  subst hq
  rw [cl_30 rfl, B30]
  have hk : k < s.ticks.length := (List.getElem?_eq_some_iff.1 hy).1
  cases k with
  | zero =>
    rcases hi with rfl | rfl | rfl <;> simp only [nat_0, nat_1, nat_2] <;>
      simp (maxSteps := 4000000) only [ go_sem, ↓reduceIte, Nat.reduceMul, Int.reduceLT, Int.reduceNeg, Int.reduceEq, Int.reduceLE, Int.reduceAdd, Int.reduceSub, Nat.reduceEqDiff, Nat.reduceLeDiff, Nat.reduceLT, Nat.reduceAdd, reduceCtorEq, RScript.encC_all, RScript.enc_0, RScript.enc_1, RScript.enc_2, RScript.enc_3, RScript.enc_4, RScript.enc_5, RScript.enc_6, RScript.enc_7, RScript.enc_8, RScript.enc_all, RScript.enc_len, RScript.subC_3_2, RScript.subC_5_2, RScript.sub_3_2, RScript.sub_5_2, RTick.encC_all, RTick.enc_0, RTick.enc_1, RTick.enc_10, RTick.enc_2, RTick.enc_3, RTick.enc_4, RTick.enc_5, RTick.enc_6, RTick.enc_7, RTick.enc_8, RTick.enc_9, RTick.enc_all, RTick.enc_len, RTick.subC_1_2, RTick.subC_5_4, RTick.sub_1_2, RTick.sub_5_4, List.getElem?_map, Option.map_some, List.length_map, map_clC, map_nmC, ei64_0, eu8_0, eL_0, hy] <;>
      simp only [fitR, prevOf] <;> all_goals ((repeat' (first | with_reducible rfl | with_reducible contradiction | split)) <;> (first | with_reducible rfl | (simp_all; done) | (simp_all; omega) | omega))
  | succ m =>
    obtain ⟨z, hz⟩ := get_ex (l := s.ticks) (n := m) (by omega)
    have h6 := w64_dec (n := s.ticks.length) (j := m) hk (by omega)
    rcases hi with rfl | rfl | rfl <;> simp only [nat_0, nat_1, nat_2] <;>
      simp (maxSteps := 4000000) only [ go_sem, ↓reduceIte, Nat.reduceMul, Int.reduceLT, Int.reduceNeg, Int.reduceEq, Int.reduceLE, Int.reduceAdd, Int.reduceSub, Nat.reduceEqDiff, Nat.reduceLeDiff, Nat.reduceLT, Nat.reduceAdd, reduceCtorEq, RScript.encC_all, RScript.enc_0, RScript.enc_1, RScript.enc_2, RScript.enc_3, RScript.enc_4, RScript.enc_5, RScript.enc_6, RScript.enc_7, RScript.enc_8, RScript.enc_all, RScript.enc_len, RScript.subC_3_2, RScript.subC_5_2, RScript.sub_3_2, RScript.sub_5_2, RTick.encC_all, RTick.enc_0, RTick.enc_1, RTick.enc_10, RTick.enc_2, RTick.enc_3, RTick.enc_4, RTick.enc_5, RTick.enc_6, RTick.enc_7, RTick.enc_8, RTick.enc_9, RTick.enc_all, RTick.enc_len, RTick.subC_1_2, RTick.subC_5_4, RTick.sub_1_2, RTick.sub_5_4, List.getElem?_map, Option.map_some, List.length_map, map_clC, map_nmC, ei64_0, eu8_0, eL_0, hy, hz, h6, pos_succ] <;>
      simp only [fitR, prevOf, hz] <;> all_goals ((repeat' (first | with_reducible rfl | with_reducible contradiction | split)) <;> (first | with_reducible rfl | (simp_all; done) | (simp_all; omega) | omega))
def wrongR (c : Config) (y : RTick) (i : Nat) : Bool := if i = 2 then far y.rad (refErr c (w64 (y.v + y.rad))) else decide (¬ y.slip i = 0)
set_option maxHeartbeats 4000000 in
theorem c31 {H : Heap} (c : Config) (s : RScript) (i k : Nat) (y : RTick) (hi : i = 0 ∨ i = 1 ∨ i = 2) (hy : s.ticks[k]? = some y) : callL tab ext 31 [.agg ((Config.enc c).map .d), .agg ((RScript.enc s).map .d), .I i, .I k] H = some (.B (wrongR c y i), H) := by
  rw [cl_31 rfl, B31]
  rcases hi with rfl | rfl | rfl <;> simp only [nat_0, nat_1, nat_2] <;>
    simp (maxSteps := 4000000) only [↓r31_3,  go_sem, ↓reduceIte, Nat.reduceMul, Int.reduceLT, Int.reduceNeg, Int.reduceEq, Int.reduceLE, Int.reduceAdd, Int.reduceSub, Nat.reduceEqDiff, Nat.reduceLeDiff, Nat.reduceLT, Nat.reduceAdd, reduceCtorEq, Config.encC_all, Config.enc_0, Config.enc_1, Config.enc_10, Config.enc_11, Config.enc_12, Config.enc_13, Config.enc_2, Config.enc_3, Config.enc_4, Config.enc_5, Config.enc_6, Config.enc_7, Config.enc_8, Config.enc_9, Config.enc_all, Config.enc_len, RScript.encC_all, RScript.enc_0, RScript.enc_1, RScript.enc_2, RScript.enc_3, RScript.enc_4, RScript.enc_5, RScript.enc_6, RScript.enc_7, RScript.enc_8, RScript.enc_all, RScript.enc_len, RScript.subC_3_2, RScript.subC_5_2, RScript.sub_3_2, RScript.sub_5_2, RTick.enc, RTick.encC_all, RTick.enc_0, RTick.enc_1, RTick.enc_10, RTick.enc_2, RTick.enc_3, RTick.enc_4, RTick.enc_5, RTick.enc_6, RTick.enc_7, RTick.enc_8, RTick.enc_9, RTick.enc_all, RTick.enc_len, RTick.subC_1_2, RTick.subC_5_4, RTick.sub_1_2, RTick.sub_5_4, List.getElem?_map, Option.map_some, List.length_map, map_clC, map_nmC, ei64_0, eu8_0, eL_0, hy, c78, c77] <;>
    simp only [wrongR] <;> all_goals ((repeat' (first | with_reducible rfl | with_reducible contradiction | split)) <;> (first | with_reducible rfl | (simp_all; done) | (simp_all; omega) | omega))

end
end Go.Ab
namespace Go.Ab
section
variable {ext : Callee}
def n16 (x : Int) : Int := (w64 (x.tmod 65536 + 65536)).tmod 65536
def rSaysT (c : Config) (s : RScript) (w k : Nat) : Int × Int := rTacho (rDelta (n16 (rCount s c.pulses w k)) (n16 (rCount s c.pulses w (k + 1)))) c.circLo c.circHi c.pulses
set_option maxHeartbeats 4000000 in
theorem c32_2 {H : Heap} (c : Config) (s : RScript) (k : Nat) (y : RTick) (hy : s.ticks[k]? = some y) : callL tab ext 32 [.agg ((Config.enc c).map .d), .agg ((RScript.enc s).map .d), .I 2, .I k] H = some (.agg [J (refRadar c (w64 (y.v + y.rad))).1, J (refRadar c (w64 (y.v + y.rad))).2], H) := by
  rw [cl_32 rfl, B32]
  simp (maxSteps := 4000000) only [↓r32_2,  go_sem, ↓reduceIte, Nat.reduceMul, Int.reduceLT, Int.reduceNeg, Int.reduceEq, Int.reduceLE, Int.reduceAdd, Int.reduceSub, Nat.reduceEqDiff, Nat.reduceLeDiff, Nat.reduceLT, Nat.reduceAdd, reduceCtorEq, Config.encC_all, Config.enc_0, Config.enc_1, Config.enc_10, Config.enc_11, Config.enc_12, Config.enc_13, Config.enc_2, Config.enc_3, Config.enc_4, Config.enc_5, Config.enc_6, Config.enc_7, Config.enc_8, Config.enc_9, Config.enc_all, Config.enc_len, RScript.encC_all, RScript.enc_0, RScript.enc_1, RScript.enc_2, RScript.enc_3, RScript.enc_4, RScript.enc_5, RScript.enc_6, RScript.enc_7, RScript.enc_8, RScript.enc_all, RScript.enc_len, RScript.subC_3_2, RScript.subC_5_2, RScript.sub_3_2, RScript.sub_5_2, RTick.encC_all, RTick.enc_0, RTick.enc_1, RTick.enc_10, RTick.enc_2, RTick.enc_3, RTick.enc_4, RTick.enc_5, RTick.enc_6, RTick.enc_7, RTick.enc_8, RTick.enc_9, RTick.enc_all, RTick.enc_len, RTick.subC_1_2, RTick.subC_5_4, RTick.sub_1_2, RTick.sub_5_4, List.getElem?_map, Option.map_some, List.length_map, map_clC, map_nmC, ei64_0, eu8_0, eL_0, hy, c79]
set_option maxHeartbeats 4000000 in
theorem c32_t {H : Heap} (c : Config) (s : RScript) (w k : Nat) (hw : w = 0 ∨ w = 1) (hk : k < s.ticks.length) (hn : s.ticks.length ≤ 4096) (hc : (s.circ w = 0) = False) (hp' : (c.pulses = 0) = False) : callL tab ext 32 [.agg ((Config.enc c).map .d), .agg ((RScript.enc s).map .d), .I w, .I k] H = some (.agg [J (rSaysT c s w k).1, J (rSaysT c s w k).2], H) := by
  have h1 := fun H => c80 (ext := ext) (H := H) s c.pulses w k hw hc (by omega) hn
  have h2 := fun H => c80 (ext := ext) (H := H) s c.pulses w (k + 1) hw hc (by omega) hn
  have h5 := w64_inc (n := s.ticks.length) hk (by omega)
  have h3 := fun H d => c82 (ext := ext) (H := H) d c.circLo c.circHi c.pulses hp'
  rw [cl_32 rfl, B32]
  rcases hw with rfl | rfl
  · simp only [nat_0] at h1 h2 ⊢
    simp (maxSteps := 4000000) only [↓r32_2,  go_sem, ↓reduceIte, Nat.reduceMul, Int.reduceLT, Int.reduceNeg, Int.reduceEq, Int.reduceLE, Int.reduceAdd, Int.reduceSub, Nat.reduceEqDiff, Nat.reduceLeDiff, Nat.reduceLT, Nat.reduceAdd, reduceCtorEq, Config.encC_all, Config.enc_0, Config.enc_1, Config.enc_10, Config.enc_11, Config.enc_12, Config.enc_13, Config.enc_2, Config.enc_3, Config.enc_4, Config.enc_5, Config.enc_6, Config.enc_7, Config.enc_8, Config.enc_9, Config.enc_all, Config.enc_len, RScript.encC_all, RScript.enc_0, RScript.enc_1, RScript.enc_2, RScript.enc_3, RScript.enc_4, RScript.enc_5, RScript.enc_6, RScript.enc_7, RScript.enc_8, RScript.enc_all, RScript.enc_len, RScript.subC_3_2, RScript.subC_5_2, RScript.sub_3_2, RScript.sub_5_2, List.getElem?_map, Option.map_some, List.length_map, map_clC, map_nmC, ei64_0, eu8_0, eL_0, n65536, h1, h2, h3, h5, c81]
    simp only [rSaysT, n16]
  · simp only [nat_0, nat_1] at h1 h2 ⊢
    simp (maxSteps := 4000000) only [↓r32_2,  go_sem, ↓reduceIte, Nat.reduceMul, Int.reduceLT, Int.reduceNeg, Int.reduceEq, Int.reduceLE, Int.reduceAdd, Int.reduceSub, Nat.reduceEqDiff, Nat.reduceLeDiff, Nat.reduceLT, Nat.reduceAdd, reduceCtorEq, Config.encC_all, Config.enc_0, Config.enc_1, Config.enc_10, Config.enc_11, Config.enc_12, Config.enc_13, Config.enc_2, Config.enc_3, Config.enc_4, Config.enc_5, Config.enc_6, Config.enc_7, Config.enc_8, Config.enc_9, Config.enc_all, Config.enc_len, RScript.encC_all, RScript.enc_0, RScript.enc_1, RScript.enc_2, RScript.enc_3, RScript.enc_4, RScript.enc_5, RScript.enc_6, RScript.enc_7, RScript.enc_8, RScript.enc_all, RScript.enc_len, RScript.subC_3_2, RScript.subC_5_2, RScript.sub_3_2, RScript.sub_5_2, List.getElem?_map, Option.map_some, List.length_map, map_clC, map_nmC, ei64_0, eu8_0, eL_0, n65536, h1, h2, h3, h5, c81]
    simp only [rSaysT, n16]

end
end Go.Ab
namespace Go.Ab
section
variable {ext : Callee}
theorem RS_put (x : RScript) : putAt [.nil 1, .d (.i .i64 0), .d (.i .i64 0), .d (.i .i64 0), .d (.i .i64 0), .d (.i .i64 0), .d (.i .i64 0), .nil 11, .nil 4] 0 ((RScript.enc x).map .d) = some ((RScript.enc x).map .d) := rfl
def sayP (c : Config) (s : Script) (i k : Nat) (y : Tick) : Int × Int := if i = 2 then refRadar c (w64 (y.v + y.rad)) else rSaysT c (refS s) i k
abbrev H8 (c : Config) (b1 : Box) (s : Script) (H : Heap) : Heap := hp H [⟨true, (Config.enc c).map .d⟩, b1, ⟨true, (Script.enc s).map .d⟩, ⟨true, (RScript.enc (refS s)).map .d⟩]
abbrev R8 (c : Config) (b1 : Box) (s : Script) (H : Heap) (n k : Int) : Option (Ex × St) := some (.exit 2, ⟨(upd (upd (upd (upd (upd und 28 (.I k)) 27 (.I n)) 7 (.c (.ptr (pid H 3) 0))) 5 (.c (.ptr (pid H 2) 0))) 3 (.c (.ptr (pid H 0) 0))), H8 c b1 s H⟩)
set_option maxHeartbeats 4000000 in
theorem l8_13 (c : Config) (b1 : Box) (s : Script) (H : Heap) (n k : Int) : runL tab ext k8_1 ⟨(upd (upd (upd (upd (upd (upd (upd und 31 (.I 3)) 28 (.I k)) 27 (.I n)) 8 (.I k)) 7 (.c (.ptr (pid H 3) 0))) 5 (.c (.ptr (pid H 2) 0))) 3 (.c (.ptr (pid H 0) 0))), H8 c b1 s H⟩ = R8 c b1 s H n k := by
  rw [s8_1, b8_1]
  simp (maxSteps := 4000000) only [↓r8_14,  go_sem, ↓reduceIte, Nat.reduceMul, Int.reduceLT, Int.reduceNeg, Int.reduceEq, Int.reduceLE, Int.reduceAdd, Int.reduceSub, Nat.reduceEqDiff, Nat.reduceLeDiff, Nat.reduceLT, Nat.reduceAdd, reduceCtorEq, List.getElem?_map, Option.map_some, List.length_map, map_clC, map_nmC, ei64_0, eu8_0, eL_0]
  simp only [kst]
set_option maxHeartbeats 4000000 in
theorem l8_1s (c : Config) (b1 : Box) (s : Script) (H : Heap) (n : Int) (k i : Nat) (hi : i = 0 ∨ i = 1 ∨ i = 2) (y : Tick) (hy : s.ticks[k]? = some y) (f wr : Bool) (lo hi' : Int)
    (hf : ∀ H', callL tab ext 30 [.agg ((RScript.enc (refS s)).map .d), .I i, .I k] (hp H H') = some (.B f, hp H H'))
    (hw : ∀ H', callL tab ext 31 [.agg ((Config.enc c).map .d), .agg ((RScript.enc (refS s)).map .d), .I i, .I k] (hp H H') = some (.B wr, hp H H'))
    (hs : ∀ H', callL tab ext 32 [.agg ((Config.enc c).map .d), .agg ((RScript.enc (refS s)).map .d), .I i, .I k] (hp H H') = some (.agg [J lo, J hi'], hp H H'))
    (hb : f = true → wr = false → lo ≤ y.v ∧ y.v ≤ hi')
    (nx : runL tab ext k8_1 ⟨(upd (upd (upd (upd (upd (upd (upd und 31 (.I ((i + 1 : Nat) : Int))) 28 (.I k)) 27 (.I n)) 8 (.I k)) 7 (.c (.ptr (pid H 3) 0))) 5 (.c (.ptr (pid H 2) 0))) 3 (.c (.ptr (pid H 0) 0))), H8 c b1 s H⟩ = R8 c b1 s H n k) :
    runL tab ext k8_1 ⟨(upd (upd (upd (upd (upd (upd (upd und 31 (.I i)) 28 (.I k)) 27 (.I n)) 8 (.I k)) 7 (.c (.ptr (pid H 3) 0))) 5 (.c (.ptr (pid H 2) 0))) 3 (.c (.ptr (pid H 0) 0))), H8 c b1 s H⟩ = R8 c b1 s H n k := by
  rw [s8_1, b8_1]
  cases f with
  | false =>
    rcases hi with rfl | rfl | rfl <;> simp only [nat_0, nat_1, nat_2, nat_3, Nat.zero_add, Nat.reduceAdd] at hf nx ⊢ <;>
      simp (maxSteps := 4000000) only [↓r8_14,  go_sem, ↓reduceIte, Nat.reduceMul, Int.reduceLT, Int.reduceNeg, Int.reduceEq, Int.reduceLE, Int.reduceAdd, Int.reduceSub, Nat.reduceEqDiff, Nat.reduceLeDiff, Nat.reduceLT, Nat.reduceAdd, reduceCtorEq, Config.encC_all, Config.enc_0, Config.enc_1, Config.enc_10, Config.enc_11, Config.enc_12, Config.enc_13, Config.enc_2, Config.enc_3, Config.enc_4, Config.enc_5, Config.enc_6, Config.enc_7, Config.enc_8, Config.enc_9, Config.enc_all, Config.enc_len, Script.encC_all, Script.enc_0, Script.enc_1, Script.enc_2, Script.enc_3, Script.enc_4, Script.enc_5, Script.enc_6, Script.enc_7, Script.enc_8, Script.enc_all, Script.enc_len, Script.subC_3_2, Script.subC_5_2, Script.sub_3_2, Script.sub_5_2, RScript.encC_all, RScript.enc_0, RScript.enc_1, RScript.enc_2, RScript.enc_3, RScript.enc_4, RScript.enc_5, RScript.enc_6, RScript.enc_7, RScript.enc_8, RScript.enc_all, RScript.enc_len, RScript.subC_3_2, RScript.subC_5_2, RScript.sub_3_2, RScript.sub_5_2, Span.enc, Span.encC_all, Span.enc_0, Span.enc_1, Span.enc_all, Span.enc_len, List.getElem?_map, Option.map_some, List.length_map, map_clC, map_nmC, ei64_0, eu8_0, eL_0, hf, nx, Nat.max_le] <;>
      simp only [kst]
  | true =>
    cases wr with
    | true =>
      rcases hi with rfl | rfl | rfl <;> simp only [nat_0, nat_1, nat_2, nat_3, Nat.zero_add, Nat.reduceAdd] at hf hw nx ⊢ <;>
        simp (maxSteps := 4000000) only [↓r8_14,  go_sem, ↓reduceIte, Nat.reduceMul, Int.reduceLT, Int.reduceNeg, Int.reduceEq, Int.reduceLE, Int.reduceAdd, Int.reduceSub, Nat.reduceEqDiff, Nat.reduceLeDiff, Nat.reduceLT, Nat.reduceAdd, reduceCtorEq, Config.encC_all, Config.enc_0, Config.enc_1, Config.enc_10, Config.enc_11, Config.enc_12, Config.enc_13, Config.enc_2, Config.enc_3, Config.enc_4, Config.enc_5, Config.enc_6, Config.enc_7, Config.enc_8, Config.enc_9, Config.enc_all, Config.enc_len, Script.encC_all, Script.enc_0, Script.enc_1, Script.enc_2, Script.enc_3, Script.enc_4, Script.enc_5, Script.enc_6, Script.enc_7, Script.enc_8, Script.enc_all, Script.enc_len, Script.subC_3_2, Script.subC_5_2, Script.sub_3_2, Script.sub_5_2, RScript.encC_all, RScript.enc_0, RScript.enc_1, RScript.enc_2, RScript.enc_3, RScript.enc_4, RScript.enc_5, RScript.enc_6, RScript.enc_7, RScript.enc_8, RScript.enc_all, RScript.enc_len, RScript.subC_3_2, RScript.subC_5_2, RScript.sub_3_2, RScript.sub_5_2, Span.enc, Span.encC_all, Span.enc_0, Span.enc_1, Span.enc_all, Span.enc_len, List.getElem?_map, Option.map_some, List.length_map, map_clC, map_nmC, ei64_0, eu8_0, eL_0, hf, hw, nx, Nat.max_le] <;>
        simp only [kst]
    | false =>
      obtain ⟨g1, g2⟩ := hb rfl rfl
      have g1 : (y.v < lo) = False := by simp; exact g1
      have g2 : (hi' < y.v) = False := by simp; exact g2
      rcases hi with rfl | rfl | rfl <;> simp only [nat_0, nat_1, nat_2, nat_3, Nat.zero_add, Nat.reduceAdd] at hf hw hs nx ⊢ <;>
        simp (maxSteps := 4000000) only [↓r8_14,  go_sem, ↓reduceIte, Nat.reduceMul, Int.reduceLT, Int.reduceNeg, Int.reduceEq, Int.reduceLE, Int.reduceAdd, Int.reduceSub, Nat.reduceEqDiff, Nat.reduceLeDiff, Nat.reduceLT, Nat.reduceAdd, reduceCtorEq, Config.encC_all, Config.enc_0, Config.enc_1, Config.enc_10, Config.enc_11, Config.enc_12, Config.enc_13, Config.enc_2, Config.enc_3, Config.enc_4, Config.enc_5, Config.enc_6, Config.enc_7, Config.enc_8, Config.enc_9, Config.enc_all, Config.enc_len, Script.encC_all, Script.enc_0, Script.enc_1, Script.enc_2, Script.enc_3, Script.enc_4, Script.enc_5, Script.enc_6, Script.enc_7, Script.enc_8, Script.enc_all, Script.enc_len, Script.subC_3_2, Script.subC_5_2, Script.sub_3_2, Script.sub_5_2, RScript.encC_all, RScript.enc_0, RScript.enc_1, RScript.enc_2, RScript.enc_3, RScript.enc_4, RScript.enc_5, RScript.enc_6, RScript.enc_7, RScript.enc_8, RScript.enc_all, RScript.enc_len, RScript.subC_3_2, RScript.subC_5_2, RScript.sub_3_2, RScript.sub_5_2, Tick.encC_all, Tick.enc_0, Tick.enc_1, Tick.enc_10, Tick.enc_2, Tick.enc_3, Tick.enc_4, Tick.enc_5, Tick.enc_6, Tick.enc_7, Tick.enc_8, Tick.enc_9, Tick.enc_all, Tick.enc_len, Tick.subC_1_2, Tick.subC_5_4, Tick.sub_1_2, Tick.sub_5_4, Span.enc, Span.encC_all, Span.enc_0, Span.enc_1, Span.enc_all, Span.enc_len, List.getElem?_map, Option.map_some, List.length_map, map_clC, map_nmC, ei64_0, eu8_0, eL_0, hf, hw, hs, nx, hy, g1, g2, Nat.max_le] <;>
        simp only [kst]
/-- What the plain law has to say. -/
structure Law8 (c : Config) (t : Track) (s : Script) : Prop where
  pulses : ¬ c.pulses = 0
  circ : ∀ w, w = 0 ∨ w = 1 → ¬ s.circ w = 0
  between : ∀ (k : Nat) (y : Tick) (i : Nat), s.ticks[k]? = some y → i = 0 ∨ i = 1 ∨ i = 2 → fitR (refTick y) (prevOf (refS s).ticks k) i = true → wrongR c (refTick y) i = false → (sayP c s i k y).1 ≤ y.v ∧ y.v ≤ (sayP c s i k y).2
theorem refS_get {s : Script} {k : Nat} {y : Tick} (h : s.ticks[k]? = some y) : (refS s).ticks[k]? = some (refTick y) := by
  simp [refS, h]
theorem refS_len (s : Script) : (refS s).ticks.length = s.ticks.length := by simp [refS]
theorem l8_10 (c : Config) (t : Track) (b1 : Box) (s : Script) (H : Heap) (n : Int) (k : Nat) (y : Tick) (hl : Law8 c t s) (hn : s.ticks.length ≤ 4096) (hy : s.ticks[k]? = some y) :
    runL tab ext k8_1 ⟨(upd (upd (upd (upd (upd (upd (upd und 31 (.I 0)) 28 (.I k)) 27 (.I n)) 8 (.I k)) 7 (.c (.ptr (pid H 3) 0))) 5 (.c (.ptr (pid H 2) 0))) 3 (.c (.ptr (pid H 0) 0))), H8 c b1 s H⟩ = R8 c b1 s H n k := by
  have hk : k < s.ticks.length := (List.getElem?_eq_some_iff.1 hy).1
  have hf := fun i hi H' => c30 (ext := ext) (H := hp H H') (refS s) i k (refTick y) _ hi (refS_get hy) rfl (by rw [refS_len]; exact hn)
  have hw := fun i hi H' => c31 (ext := ext) (H := hp H H') c (refS s) i k (refTick y) hi (refS_get hy)
  have hs2 := fun H' => c32_2 (ext := ext) (H := hp H H') c (refS s) k (refTick y) (refS_get hy)
  have hst := fun w hw H' => c32_t (ext := ext) (H := hp H H') c (refS s) w k hw (by rw [refS_len]; exact hk) (by rw [refS_len]; exact hn) (by have := hl.circ w hw; show (s.circ w = 0) = False; simpa using this) (by simpa using hl.pulses)
  have n2 := l8_1s (ext := ext) c b1 s H n k 2 (by simp) y hy _ _ _ _ (hf 2 (by simp)) (hw 2 (by simp)) hs2 (fun a b => hl.between k y 2 hy (by simp) a b) (l8_13 c b1 s H n k)
  have n1 := l8_1s (ext := ext) c b1 s H n k 1 (by simp) y hy _ _ _ _ (hf 1 (by simp)) (hw 1 (by simp)) (hst 1 (by simp)) (fun a b => hl.between k y 1 hy (by simp) a b) n2
  exact l8_1s (ext := ext) c b1 s H n k 0 (by simp) y hy _ _ _ _ (hf 0 (by simp)) (hw 0 (by simp)) (hst 0 (by simp)) (fun a b => hl.between k y 0 hy (by simp) a b) n1
set_option maxHeartbeats 4000000 in
theorem l8_0 (c : Config) (t : Track) (b1 : Box) (s : Script) (H : Heap) (hl : Law8 c t s) (hn : s.ticks.length ≤ 4096) : ∀ (r : List Tick) (i : Nat), s.ticks.drop i = r →
    runL tab ext k8_0 ⟨(upd (upd (upd (upd (upd und 28 (.I i)) 27 (.I s.ticks.length)) 7 (.c (.ptr (pid H 3) 0))) 5 (.c (.ptr (pid H 2) 0))) 3 (.c (.ptr (pid H 0) 0))), H8 c b1 s H⟩ = some (.exit 0, ⟨und, H8 c b1 s H⟩)
  | [], i, hs => by
    have h0 := dr_end hs
    rw [s8_0, b8_0]
    simp (maxSteps := 4000000) only [↓r8_14,  go_sem, ↓reduceIte, Nat.reduceMul, Int.reduceLT, Int.reduceNeg, Int.reduceEq, Int.reduceLE, Int.reduceAdd, Int.reduceSub, Nat.reduceEqDiff, Nat.reduceLeDiff, Nat.reduceLT, Nat.reduceAdd, reduceCtorEq, List.getElem?_map, Option.map_some, List.length_map, map_clC, map_nmC, ei64_0, eu8_0, eL_0, h0]
    simp only [kst]
  | k :: r, i, hs => by
    obtain ⟨h1, h2, h3⟩ := dr_cons hs
    have ih := l8_0 c t b1 s H hl hn r (i + 1) h3
    have h4 := dr_lt h2
    have h5 := w64_inc h2 (by omega)
    have hin := l8_10 (ext := ext) c t b1 s H s.ticks.length i k hl hn h1
    rw [s8_0, b8_0]
    simp (maxSteps := 4000000) only [↓r8_14,  go_sem, ↓reduceIte, Nat.reduceMul, Int.reduceLT, Int.reduceNeg, Int.reduceEq, Int.reduceLE, Int.reduceAdd, Int.reduceSub, Nat.reduceEqDiff, Nat.reduceLeDiff, Nat.reduceLT, Nat.reduceAdd, reduceCtorEq, List.getElem?_map, Option.map_some, List.length_map, map_clC, map_nmC, ei64_0, eu8_0, eL_0, h4, h5, hin, ih, Nat.max_le]
set_option maxHeartbeats 4000000 in
theorem c8 {H : Heap} (c : Config) (t : Track) (s : Script) (hz : t.Sz) (hs : s.Sz) (hlaw : great t s = false → admitCheck c t s = 0 → Law8 c t s) : callL tab ext 8 [.agg ((Config.enc c).map .d), .agg ((Track.enc t).map .d), .agg ((Script.enc s).map .d)] H = some (.B true, H) := by
  have hg := fun H => c20 (ext := ext) (H := H) t s hz hs
  have ha := fun H => c21 (ext := ext) (H := H) c t s hz hs
  rw [cl_8 rfl, B8]
  cases q1 : great t s with
  | true =>
    simp (maxSteps := 4000000) only [↓r8_14,  go_sem, ↓reduceIte, Nat.reduceMul, Int.reduceLT, Int.reduceNeg, Int.reduceEq, Int.reduceLE, Int.reduceAdd, Int.reduceSub, Nat.reduceEqDiff, Nat.reduceLeDiff, Nat.reduceLT, Nat.reduceAdd, reduceCtorEq, Config.encC_all, Config.enc_0, Config.enc_1, Config.enc_10, Config.enc_11, Config.enc_12, Config.enc_13, Config.enc_2, Config.enc_3, Config.enc_4, Config.enc_5, Config.enc_6, Config.enc_7, Config.enc_8, Config.enc_9, Config.enc_all, Config.enc_len, Track.encC_all, Track.enc_0, Track.enc_1, Track.enc_all, Track.enc_len, Script.encC_all, Script.enc_0, Script.enc_1, Script.enc_2, Script.enc_3, Script.enc_4, Script.enc_5, Script.enc_6, Script.enc_7, Script.enc_8, Script.enc_all, Script.enc_len, Script.subC_3_2, Script.subC_5_2, Script.sub_3_2, Script.sub_5_2, List.getElem?_map, Option.map_some, List.length_map, map_clC, map_nmC, ei64_0, eu8_0, eL_0, c19, hg, q1]
  | false =>
    by_cases q2 : admitCheck c t s = 0
    · have hl := hlaw q1 q2
      have hn : s.ticks.length ≤ 120 := by
        simp only [great] at q1
        repeat' split at q1
        all_goals first | cases q1 | omega
      have hr : s.reads.length ≤ 120 := by
        simp only [great] at q1
        repeat' split at q1
        all_goals first | cases q1 | omega
      have h23 := fun H => c23 (ext := ext) (H := H) s (by omega) (by omega)
      have hl0 := fun b1 => l8_0 (ext := ext) c t b1 s H hl (by omega) s.ticks 0 rfl
      simp only [nat_0] at hl0
      simp (maxSteps := 4000000) only [↓r8_14,  go_sem, ↓reduceIte, Nat.reduceMul, Int.reduceLT, Int.reduceNeg, Int.reduceEq, Int.reduceLE, Int.reduceAdd, Int.reduceSub, Nat.reduceEqDiff, Nat.reduceLeDiff, Nat.reduceLT, Nat.reduceAdd, reduceCtorEq, Config.encC_all, Config.enc_0, Config.enc_1, Config.enc_10, Config.enc_11, Config.enc_12, Config.enc_13, Config.enc_2, Config.enc_3, Config.enc_4, Config.enc_5, Config.enc_6, Config.enc_7, Config.enc_8, Config.enc_9, Config.enc_all, Config.enc_len, Track.encC_all, Track.enc_0, Track.enc_1, Track.enc_all, Track.enc_len, Script.encC_all, Script.enc_0, Script.enc_1, Script.enc_2, Script.enc_3, Script.enc_4, Script.enc_5, Script.enc_6, Script.enc_7, Script.enc_8, Script.enc_all, Script.enc_len, Script.subC_3_2, Script.subC_5_2, Script.sub_3_2, Script.sub_5_2, RScript.encC_all, RScript.enc_0, RScript.enc_1, RScript.enc_2, RScript.enc_3, RScript.enc_4, RScript.enc_5, RScript.enc_6, RScript.enc_7, RScript.enc_8, RScript.enc_all, RScript.enc_len, RScript.subC_3_2, RScript.subC_5_2, RScript.sub_3_2, RScript.sub_5_2, List.getElem?_map, Option.map_some, List.length_map, map_clC, map_nmC, ei64_0, eu8_0, eL_0, c19, hg, q1, ha, q2, h23, hl0, RS_put, bdA_map]
    · simp (maxSteps := 4000000) only [↓r8_14,  go_sem, ↓reduceIte, Nat.reduceMul, Int.reduceLT, Int.reduceNeg, Int.reduceEq, Int.reduceLE, Int.reduceAdd, Int.reduceSub, Nat.reduceEqDiff, Nat.reduceLeDiff, Nat.reduceLT, Nat.reduceAdd, reduceCtorEq, Config.encC_all, Config.enc_0, Config.enc_1, Config.enc_10, Config.enc_11, Config.enc_12, Config.enc_13, Config.enc_2, Config.enc_3, Config.enc_4, Config.enc_5, Config.enc_6, Config.enc_7, Config.enc_8, Config.enc_9, Config.enc_all, Config.enc_len, Track.encC_all, Track.enc_0, Track.enc_1, Track.enc_all, Track.enc_len, Script.encC_all, Script.enc_0, Script.enc_1, Script.enc_2, Script.enc_3, Script.enc_4, Script.enc_5, Script.enc_6, Script.enc_7, Script.enc_8, Script.enc_all, Script.enc_len, Script.subC_3_2, Script.subC_5_2, Script.sub_3_2, Script.sub_5_2, List.getElem?_map, Option.map_some, List.length_map, map_clC, map_nmC, ei64_0, eu8_0, eL_0, c19, hg, q1, ha, q2]

end
end Go.Ab
