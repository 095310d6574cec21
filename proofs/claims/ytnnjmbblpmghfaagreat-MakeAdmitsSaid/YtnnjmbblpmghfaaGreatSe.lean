/-
  What functions of the program come to.
  Conditions: none.
-/
import Derived.Test.YtnnjmbblpmghfaaGreatSd
set_option linter.unusedSimpArgs false
set_option linter.unusedVariables false
namespace Go.Ab
section
variable {ext : Callee}
theorem tup1_ite {p : Prop} [Decidable p] {x y : Int} {H : Heap} : (some (V.I (if p then x else y), H) : Option (V × Heap)) = if p then some (V.I x, H) else some (V.I y, H) := by split <;> rfl
def refUp (a b : Int) : Int := w64 ((w64 (w64 (a + b) - 1)).tdiv b)
set_option maxHeartbeats 4000000 in
theorem c76 {H : Heap} (a b : Int) (hb : (b = 0) = False) : callL tab ext 76 [.I a, .I b] H = some (.I (refUp a b), H) := by
  rw [cl_76 rfl, B76]
  simp (maxSteps := 4000000) only [go_sem, ↓reduceIte, Nat.reduceMul, Int.reduceLT, Int.reduceNeg, Int.reduceEq, Int.reduceLE, Int.reduceAdd, Int.reduceSub, Nat.reduceEqDiff, Nat.reduceLeDiff, Nat.reduceLT, Nat.reduceAdd, reduceCtorEq, List.getElem?_map, Option.map_some, List.length_map, map_clC, map_nmC, ei64_0, eu8_0, eL_0, hb]
  try simp only [refUp]
  all_goals ((repeat' (first | with_reducible rfl | with_reducible contradiction | split)) <;> (first | with_reducible rfl | (simp_all; done) | (simp_all; omega) | omega))
def outR (x a b : Int) : Bool := if x < a then true else decide (b < x)
def out2 (x a b y c d : Int) : Bool := if x < a then true else if b < x then true else if y < c then true else decide (d < y)
def refWrong (c : Config) : Int :=
  if outR c.pulses 1 1024 = true then 1 else
  if out2 c.circLo 131072 8388608 c.circHi c.circLo 8388608 = true then 2 else
  if c.circLo < w64 (w64 (c.circHi - c.circLo) * 16) then 3 else
  if out2 c.radBase 0 1048576 c.radPart 0 65536 = true then 4 else
  if outR c.accErr 0 1048576 = true then 5 else
  if out2 c.maxSpeed 1 16777216 c.maxAccel 1 1048576 = true then 6 else
  if w64 (32000 * c.circLo) < w64 (c.maxSpeed * c.pulses) then 7 else
  if outR c.antenna 0 1048576 = true then 8 else
  if out2 c.still 1 1000 c.timeout 1 1000 = true then 9 else
  if (if c.stillSpeed < refUp c.circHi c.pulses then true else if c.stillSpeed < w64 (3 * c.radBase) then true else decide (16777216 < c.stillSpeed)) = true then 10 else
  if outR c.roll 0 1073741824 = true then 11 else
  if outR c.brake 1 1048576 = true then 12 else 0
set_option maxHeartbeats 4000000 in
theorem c50 {H : Heap} (c : Config) : callL tab ext 50 [.agg ((Config.enc c).map .d)] H = some (.I (refWrong c), H) := by
  rw [cl_50 rfl, B50]
  by_cases hp' : outR c.pulses 1 1024 = true
  · have h1 : (if c.pulses < 1 then true else decide (1024 < c.pulses)) = true := hp'
    by_cases h2 : c.pulses < 1
    · simp (maxSteps := 4000000) only [go_sem, ↓reduceIte, Nat.reduceMul, Int.reduceLT, Int.reduceNeg, Int.reduceEq, Int.reduceLE, Int.reduceAdd, Int.reduceSub, Nat.reduceEqDiff, Nat.reduceLeDiff, Nat.reduceLT, Nat.reduceAdd, reduceCtorEq, Config.encC_all, Config.enc_0, Config.enc_1, Config.enc_10, Config.enc_11, Config.enc_12, Config.enc_13, Config.enc_2, Config.enc_3, Config.enc_4, Config.enc_5, Config.enc_6, Config.enc_7, Config.enc_8, Config.enc_9, Config.enc_all, Config.enc_len, List.getElem?_map, Option.map_some, List.length_map, map_clC, map_nmC, ei64_0, eu8_0, eL_0, h2]
      simp only [refWrong, hp', if_true]
    · have h3 : 1024 < c.pulses := by simpa [h2] using h1
      simp (maxSteps := 4000000) only [go_sem, ↓reduceIte, Nat.reduceMul, Int.reduceLT, Int.reduceNeg, Int.reduceEq, Int.reduceLE, Int.reduceAdd, Int.reduceSub, Nat.reduceEqDiff, Nat.reduceLeDiff, Nat.reduceLT, Nat.reduceAdd, reduceCtorEq, Config.encC_all, Config.enc_0, Config.enc_1, Config.enc_10, Config.enc_11, Config.enc_12, Config.enc_13, Config.enc_2, Config.enc_3, Config.enc_4, Config.enc_5, Config.enc_6, Config.enc_7, Config.enc_8, Config.enc_9, Config.enc_all, Config.enc_len, List.getElem?_map, Option.map_some, List.length_map, map_clC, map_nmC, ei64_0, eu8_0, eL_0, h2, h3]
      simp only [refWrong, hp', if_true]
  · have h2 : ¬ c.pulses < 1 := by intro h; exact hp' (by simp [outR, h])
    have h3 : ¬ 1024 < c.pulses := by intro h; exact hp' (by simp [outR, h2, h])
    have h0 : (c.pulses = 0) = False := by simp; omega
    have hu := fun H => c76 (ext := ext) (H := H) c.circHi c.pulses h0
    simp (maxSteps := 4000000) only [↓r50_19,  go_sem, ↓reduceIte, Nat.reduceMul, Int.reduceLT, Int.reduceNeg, Int.reduceEq, Int.reduceLE, Int.reduceAdd, Int.reduceSub, Nat.reduceEqDiff, Nat.reduceLeDiff, Nat.reduceLT, Nat.reduceAdd, reduceCtorEq, Config.encC_all, Config.enc_0, Config.enc_1, Config.enc_10, Config.enc_11, Config.enc_12, Config.enc_13, Config.enc_2, Config.enc_3, Config.enc_4, Config.enc_5, Config.enc_6, Config.enc_7, Config.enc_8, Config.enc_9, Config.enc_all, Config.enc_len, List.getElem?_map, Option.map_some, List.length_map, map_clC, map_nmC, ei64_0, eu8_0, eL_0, h2, h3, hu]
    rw [refWrong, if_neg hp']
    simp only [tup1_ite]
    simp only [outR, out2]
    first | rfl | done
set_option maxHeartbeats 4000000 in
theorem l145_0 (l : List Piece) (n : Int) (H : Heap) (hn : l.length < 2 ^ 63) : ∀ (r : List Piece) (i : Nat) (q : Option Piece), l.drop i = r → q = prevOf l i →
    runL tab ext k145_0 ⟨(upd (upd (upd und 5 (.I i)) 1 (.I n)) 0 (VL 2 Piece.enc l)), hp H []⟩ =
    if gradeGo n q r = true then some (.exit 0, ⟨und, hp H []⟩) else some (.ret, ⟨(upd und 4 (.B false)), hp H []⟩)
  | [], i, q, hs, hq => by
    have h0 := dr_end hs
    rw [s145_0, b145_0]
    simp (maxSteps := 4000000) only [↓r145_8,  go_sem, ↓reduceIte, Nat.reduceMul, Int.reduceLT, Int.reduceNeg, Int.reduceEq, Int.reduceLE, Int.reduceAdd, Int.reduceSub, Nat.reduceEqDiff, Nat.reduceLeDiff, Nat.reduceLT, Nat.reduceAdd, reduceCtorEq, Piece.enc, Piece.encC_all, Piece.enc_0, Piece.enc_1, Piece.enc_all, Piece.enc_len, List.getElem?_map, Option.map_some, List.length_map, map_clC, map_nmC, ei64_0, eu8_0, eL_0, h0]
    simp only [gradeGo, kst, if_true]
  | k :: r, i, q, hs, hq => by
    obtain ⟨h1, h2, h3⟩ := dr_cons hs
    have ih := l145_0 l n H hn r (i + 1) (some k) h3 h1.symm
    subst hq
    have h4 := dr_lt h2
    have h5 := w64_inc h2 hn
    rw [s145_0, b145_0]
    cases i with
    | zero =>
      simp only [nat_0, Nat.zero_add, nat_1] at h4 h5 ih ⊢
      simp (maxSteps := 4000000) only [↓r145_8,  go_sem, ↓reduceIte, Nat.reduceMul, Int.reduceLT, Int.reduceNeg, Int.reduceEq, Int.reduceLE, Int.reduceAdd, Int.reduceSub, Nat.reduceEqDiff, Nat.reduceLeDiff, Nat.reduceLT, Nat.reduceAdd, reduceCtorEq, Piece.enc, Piece.encC_all, Piece.enc_0, Piece.enc_1, Piece.enc_all, Piece.enc_len, List.getElem?_map, Option.map_some, List.length_map, map_clC, map_nmC, ei64_0, eu8_0, eL_0, h1, h4, h5, ih]
      simp only [gradeGo, pieceBad, prevOf, h1, kst]
      all_goals ((repeat' (first | with_reducible rfl | with_reducible contradiction | split)) <;> (first | with_reducible rfl | (simp_all; done) | (simp_all; omega) | omega))
    | succ j =>
      have h6 := w64_dec h2 hn
      obtain ⟨z, h7⟩ := get_ex (l := l) (n := j) (by omega)
      simp (maxSteps := 4000000) only [↓r145_8,  go_sem, ↓reduceIte, Nat.reduceMul, Int.reduceLT, Int.reduceNeg, Int.reduceEq, Int.reduceLE, Int.reduceAdd, Int.reduceSub, Nat.reduceEqDiff, Nat.reduceLeDiff, Nat.reduceLT, Nat.reduceAdd, reduceCtorEq, Piece.enc, Piece.encC_all, Piece.enc_0, Piece.enc_1, Piece.enc_all, Piece.enc_len, List.getElem?_map, Option.map_some, List.length_map, map_clC, map_nmC, ei64_0, eu8_0, eL_0, h1, h4, h5, ih, h6, h7, pos_succ]
      simp only [gradeGo, pieceBad, prevOf, h7, h1, kst]
      all_goals ((repeat' (first | with_reducible rfl | with_reducible contradiction | split)) <;> (first | with_reducible rfl | (simp_all; done) | (simp_all; omega) | omega))
theorem len_lt1 {α : Type} (x : α) (t : List α) : ((((x :: t).length : Nat) : Int) < 1) = False := by simp; omega
set_option maxHeartbeats 4000000 in
theorem c145 {H : Heap} (l : List Piece) (n : Int) (hn : l.length < 2 ^ 63) : callL tab ext 145 [VL 2 Piece.enc l, .I n] H = some (.B (decide (gradeCheck l n = 0)), H) := by
  have hl := l145_0 (ext := ext) l n H hn l 0 none rfl rfl
  simp only [nat_0] at hl
  rw [cl_145 rfl, B145]
  cases l with
  | nil =>
    simp (maxSteps := 4000000) only [↓r145_8,  go_sem, ↓reduceIte, Nat.reduceMul, Int.reduceLT, Int.reduceNeg, Int.reduceEq, Int.reduceLE, Int.reduceAdd, Int.reduceSub, Nat.reduceEqDiff, Nat.reduceLeDiff, Nat.reduceLT, Nat.reduceAdd, reduceCtorEq, Piece.enc, Piece.encC_all, Piece.enc_0, Piece.enc_1, Piece.enc_all, Piece.enc_len, List.getElem?_map, Option.map_some, List.length_map, map_clC, map_nmC, ei64_0, eu8_0, eL_0]
    simp [gradeCheck]
  | cons x t =>
    have h1 := len_lt1 x t
    have h2 : (x :: t)[0]? = some x := rfl
    generalize hg : x :: t = l at *
    simp (maxSteps := 4000000) only [↓r145_8,  go_sem, ↓reduceIte, Nat.reduceMul, Int.reduceLT, Int.reduceNeg, Int.reduceEq, Int.reduceLE, Int.reduceAdd, Int.reduceSub, Nat.reduceEqDiff, Nat.reduceLeDiff, Nat.reduceLT, Nat.reduceAdd, reduceCtorEq, Piece.enc, Piece.encC_all, Piece.enc_0, Piece.enc_1, Piece.enc_all, Piece.enc_len, List.getElem?_map, Option.map_some, List.length_map, map_clC, map_nmC, ei64_0, eu8_0, eL_0, h1, h2, hl]
    subst hg
    simp only [gradeCheck]
    all_goals ((repeat' (first | with_reducible rfl | with_reducible contradiction | split)) <;> (first | with_reducible rfl | (simp_all; done) | (simp_all; omega) | omega))
def nextIn (m : Nat) : List Int → Bool
  | [] => true
  | k :: r => if k < 0 then false else if (m : Int) ≤ k then false else nextIn m r
set_option maxHeartbeats 4000000 in
theorem l102_0 (s : Segment) (m : Nat) (H : Heap) (hn : s.next.length < 2 ^ 63) : ∀ (r : List Int) (i : Nat), s.next.drop i = r →
    runL tab ext k102_0 ⟨(upd (upd (upd und 5 (.I i)) 2 (.c (.ptr (pid H 0) 0))) 1 (.I m)), hp H [⟨true, (Segment.enc s).map .d⟩]⟩ =
    if nextIn m r = true then some (.exit 0, ⟨(upd und 2 (.c (.ptr (pid H 0) 0))), hp H [⟨true, (Segment.enc s).map .d⟩]⟩) else some (.ret, ⟨(upd und 4 (.B false)), hp H [⟨true, (Segment.enc s).map .d⟩]⟩)
  | [], i, hs => by
    have h0 := dr_end hs
    rw [s102_0, b102_0]
    simp (maxSteps := 4000000) only [↓r102_8,  go_sem, ↓reduceIte, Nat.reduceMul, Int.reduceLT, Int.reduceNeg, Int.reduceEq, Int.reduceLE, Int.reduceAdd, Int.reduceSub, Nat.reduceEqDiff, Nat.reduceLeDiff, Nat.reduceLT, Nat.reduceAdd, reduceCtorEq, Segment.encC_all, Segment.enc_0, Segment.enc_1, Segment.enc_2, Segment.enc_all, Segment.enc_len, List.getElem?_map, Option.map_some, List.length_map, map_clC, map_nmC, ei64_0, eu8_0, eL_0, h0]
    simp only [nextIn, kst, if_true]
  | k :: r, i, hs => by
    obtain ⟨h1, h2, h3⟩ := dr_cons hs
    have ih := l102_0 s m H hn r (i + 1) h3
    have h4 := dr_lt h2
    have h5 := w64_inc h2 hn
    rw [s102_0, b102_0]
    simp (maxSteps := 4000000) only [↓r102_8,  go_sem, ↓reduceIte, Nat.reduceMul, Int.reduceLT, Int.reduceNeg, Int.reduceEq, Int.reduceLE, Int.reduceAdd, Int.reduceSub, Nat.reduceEqDiff, Nat.reduceLeDiff, Nat.reduceLT, Nat.reduceAdd, reduceCtorEq, Segment.encC_all, Segment.enc_0, Segment.enc_1, Segment.enc_2, Segment.enc_all, Segment.enc_len, List.getElem?_map, Option.map_some, List.length_map, map_clC, map_nmC, ei64_0, eu8_0, eL_0, h1, h4, h5, ih]
    simp only [nextIn, kst]
    all_goals ((repeat' (first | with_reducible rfl | with_reducible contradiction | split)) <;> (first | with_reducible rfl | (simp_all; done) | (simp_all; omega) | omega))
def nextUp : List Int → Bool
  | a :: b :: _ => decide (a < b)
  | _ => true
def refSeg (m : Nat) (s : Segment) : Bool :=
  if s.length < 1 then false else if 1099511627776 < s.length then false else if ¬ gradeCheck s.pieces s.length = 0 then false else if 2 < (s.next.length : Int) then false else if nextIn m s.next = false then false else nextUp s.next
set_option maxHeartbeats 4000000 in
theorem c102 {H : Heap} (s : Segment) (m : Nat) (hn : s.next.length < 2 ^ 63) (hp' : s.pieces.length < 2 ^ 63) : callL tab ext 102 [.agg ((Segment.enc s).map .d), .I m] H = some (.B (refSeg m s), H) := by
  have hl := l102_0 (ext := ext) s m H hn s.next 0 rfl
  simp only [nat_0] at hl
  have hg := fun (H : Heap) => c145 (ext := ext) (H := H) s.pieces s.length hp'
  rw [cl_102 rfl, B102]
  by_cases h2 : (s.next.length : Int) < 2
  · have hu : nextUp s.next = true := by
      match hs : s.next with
      | [] => rfl
      | [_] => rfl
      | _ :: _ :: _ => rw [hs] at h2; simp at h2; omega
    simp (maxSteps := 4000000) only [↓r102_8,  go_sem, ↓reduceIte, Nat.reduceMul, Int.reduceLT, Int.reduceNeg, Int.reduceEq, Int.reduceLE, Int.reduceAdd, Int.reduceSub, Nat.reduceEqDiff, Nat.reduceLeDiff, Nat.reduceLT, Nat.reduceAdd, reduceCtorEq, Segment.encC_all, Segment.enc_0, Segment.enc_1, Segment.enc_2, Segment.enc_all, Segment.enc_len, List.getElem?_map, Option.map_some, List.length_map, map_clC, map_nmC, ei64_0, eu8_0, eL_0, hl, hg, h2]
    simp only [refSeg, hu]
    all_goals ((repeat' (first | with_reducible rfl | with_reducible contradiction | split)) <;> (first | with_reducible rfl | (simp_all; done) | (simp_all; omega) | omega))
  · obtain ⟨a, b, r, hs⟩ : ∃ a b r, s.next = a :: b :: r := by
      match hs : s.next with
      | [] => rw [hs] at h2; simp at h2
      | [_] => rw [hs] at h2; simp at h2
      | a :: b :: r => exact ⟨a, b, r, rfl⟩
    have g0 : s.next[0]? = some a := by rw [hs]; rfl
    have g1 : s.next[1]? = some b := by rw [hs]; rfl
    simp (maxSteps := 4000000) only [↓r102_8,  go_sem, ↓reduceIte, Nat.reduceMul, Int.reduceLT, Int.reduceNeg, Int.reduceEq, Int.reduceLE, Int.reduceAdd, Int.reduceSub, Nat.reduceEqDiff, Nat.reduceLeDiff, Nat.reduceLT, Nat.reduceAdd, reduceCtorEq, Segment.encC_all, Segment.enc_0, Segment.enc_1, Segment.enc_2, Segment.enc_all, Segment.enc_len, List.getElem?_map, Option.map_some, List.length_map, map_clC, map_nmC, ei64_0, eu8_0, eL_0, hl, hg, h2, g0, g1]
    simp only [refSeg, show nextUp s.next = decide (a < b) by rw [hs]; rfl]
    all_goals ((repeat' (first | with_reducible rfl | with_reducible contradiction | split)) <;> (first | with_reducible rfl | (simp_all; done) | (simp_all; omega) | omega))

end
end Go.Ab
namespace Go.Ab
section
variable {ext : Callee}
theorem seg_same (m : Nat) (s : Segment) : refSeg m s = segOk m s := by
  unfold refSeg segOk
  by_cases h : 2 < (s.next.length : Int)
  · simp only [h, if_true]
  · simp only [h, if_false]
    have : (if nextIn m s.next = false then false else nextUp s.next) = nextGo m none s.next := by
      match hs : s.next with
      | [] => rfl
      | [a] =>
        simp only [nextIn, nextUp, nextGo, nextBad]
        by_cases h1 : a < 0 <;> by_cases h2 : (m : Int) ≤ a <;> simp [h1, h2]
      | [a, b] =>
        simp only [nextIn, nextUp, nextGo, nextBad]
        by_cases h1 : a < 0 <;> by_cases h2 : (m : Int) ≤ a <;> by_cases h3 : b < 0 <;> by_cases h4 : (m : Int) ≤ b <;> by_cases h5 : b ≤ a <;> simp [h1, h2, h3, h4, h5] <;> omega
      | a :: b :: c :: r => rw [hs] at h; simp at h; omega
    rw [this]
set_option maxHeartbeats 4000000 in
theorem l51_0 (t : Track) (H : Heap) (hz : t.Sz) : ∀ (r : List Segment) (i : Nat), t.segments.drop i = r →
    runL tab ext k51_0 ⟨(upd (upd und 4 (.I i)) 1 (.c (.ptr (pid H 0) 0))), hp H [⟨true, (Track.enc t).map .d⟩]⟩ =
    if (segFirst t.segments.length i r).isNone = true then some (.exit 0, ⟨(upd und 1 (.c (.ptr (pid H 0) 0))), hp H [⟨true, (Track.enc t).map .d⟩]⟩) else some (.ret, ⟨(upd (upd und 3 (.I ((segFirst t.segments.length i r).getD 0 : Nat))) 2 (.I 11)), hp H [⟨true, (Track.enc t).map .d⟩]⟩)
  | [], i, hs => by
    have h0 := dr_end hs
    rw [s51_0, b51_0]
    simp (maxSteps := 4000000) only [↓r51_6, ↓r51_15,  go_sem, ↓reduceIte, Nat.reduceMul, Int.reduceLT, Int.reduceNeg, Int.reduceEq, Int.reduceLE, Int.reduceAdd, Int.reduceSub, Nat.reduceEqDiff, Nat.reduceLeDiff, Nat.reduceLT, Nat.reduceAdd, reduceCtorEq, Track.encC_all, Track.enc_0, Track.enc_1, Track.enc_all, Track.enc_len, Segment.encC_all, Segment.enc_0, Segment.enc_1, Segment.enc_2, Segment.enc_all, Segment.enc_len, List.getElem?_map, Option.map_some, List.length_map, map_clC, map_nmC, ei64_0, eu8_0, eL_0, h0]
    simp only [segFirst, kst, Option.isNone_none, if_true]
  | k :: r, i, hs => by
    obtain ⟨h1, h2, h3⟩ := dr_cons hs
    have ih := l51_0 t H hz r (i + 1) h3
    have h4 := dr_lt h2
    have h5 := w64_inc h2 hz.segs
    obtain ⟨z1, z2⟩ := hz.each k (List.mem_of_getElem? h1)
    have hg := fun H => c102 (ext := ext) (H := H) k t.segments.length z1 z2
    rw [seg_same] at hg
    rw [s51_0, b51_0]
    simp (maxSteps := 4000000) only [↓r51_6, ↓r51_15,  go_sem, ↓reduceIte, Nat.reduceMul, Int.reduceLT, Int.reduceNeg, Int.reduceEq, Int.reduceLE, Int.reduceAdd, Int.reduceSub, Nat.reduceEqDiff, Nat.reduceLeDiff, Nat.reduceLT, Nat.reduceAdd, reduceCtorEq, Track.encC_all, Track.enc_0, Track.enc_1, Track.enc_all, Track.enc_len, Segment.encC_all, Segment.enc_0, Segment.enc_1, Segment.enc_2, Segment.enc_all, Segment.enc_len, List.getElem?_map, Option.map_some, List.length_map, map_clC, map_nmC, ei64_0, eu8_0, eL_0, h1, h4, h5, ih, hg]
    simp only [segFirst, kst]
    by_cases h : segOk t.segments.length k = true <;> simp [h]
def refGrpBad (n : Nat) (last : Int) (g : Group) : Bool :=
  if g.id ≤ last then true else if 65535 < g.id then true else if g.segment < 0 then true else decide ((n : Int) ≤ g.segment)
def refGrpOut (s : Segment) (g : Group) : Bool :=
  if g.offset < 0 then true else if s.length < g.offset then true else if g.acc < 0 then true else if 1048576 < g.acc then true else if g.slack < 0 then true else decide (16777216 < g.slack)
def refGrpNo (t : Track) (last : Int) (g : Group) : Bool :=
  if refGrpBad t.segments.length last g = true then true else match t.segments[g.segment.toNat]? with
    | some s => refGrpOut s g
    | none => true
def refGrpFirst (t : Track) : Nat → Int → List Group → Option Nat
  | _, _, [] => none
  | i, a, k :: r => if refGrpNo t a k = true then some i else refGrpFirst t (i + 1) k.id r
set_option maxHeartbeats 8000000 in
theorem l51_1 (t : Track) (H : Heap) (hz : t.Sz) : ∀ (r : List Group) (i : Nat) (a : Int), t.groups.drop i = r →
    runL tab ext k51_1 ⟨(upd (upd (upd und 6 (.I i)) 5 (.I a)) 1 (.c (.ptr (pid H 0) 0))), hp H [⟨true, (Track.enc t).map .d⟩]⟩ =
    if (refGrpFirst t i a r).isNone = true then some (.exit 2, ⟨und, hp H [⟨true, (Track.enc t).map .d⟩]⟩) else some (.ret, ⟨(upd (upd und 3 (.I ((refGrpFirst t i a r).getD 0 : Nat))) 2 (.I 16)), hp H [⟨true, (Track.enc t).map .d⟩]⟩)
  | [], i, a, hs => by
    have h0 := dr_end hs
    rw [s51_1, b51_1]
    simp (maxSteps := 4000000) only [↓r51_6, ↓r51_15,  go_sem, ↓reduceIte, Nat.reduceMul, Int.reduceLT, Int.reduceNeg, Int.reduceEq, Int.reduceLE, Int.reduceAdd, Int.reduceSub, Nat.reduceEqDiff, Nat.reduceLeDiff, Nat.reduceLT, Nat.reduceAdd, reduceCtorEq, Track.encC_all, Track.enc_0, Track.enc_1, Track.enc_all, Track.enc_len, Group.enc, Group.encC_all, Group.enc_0, Group.enc_1, Group.enc_2, Group.enc_3, Group.enc_4, Group.enc_all, Group.enc_len, List.getElem?_map, Option.map_some, List.length_map, map_clC, map_nmC, ei64_0, eu8_0, eL_0, h0]
    simp only [refGrpFirst, kst, Option.isNone_none, if_true]
  | ⟨id, seg, off, acc, slack⟩ :: r, i, a, hs => by
    obtain ⟨h1, h2, h3⟩ := dr_cons hs
    have h4 := dr_lt h2
    have h5 := w64_inc h2 hz.grps
    have ih := l51_1 t H hz r (i + 1) id h3
    rw [s51_1, b51_1]
    rcases seg_cases t.segments.length seg with g | ⟨g, g'⟩ | ⟨n, rfl, g'⟩
    · simp (maxSteps := 4000000) only [↓r51_6, ↓r51_15,  go_sem, ↓reduceIte, Nat.reduceMul, Int.reduceLT, Int.reduceNeg, Int.reduceEq, Int.reduceLE, Int.reduceAdd, Int.reduceSub, Nat.reduceEqDiff, Nat.reduceLeDiff, Nat.reduceLT, Nat.reduceAdd, reduceCtorEq, Track.encC_all, Track.enc_0, Track.enc_1, Track.enc_all, Track.enc_len, Segment.encC_all, Segment.enc_0, Segment.enc_1, Segment.enc_2, Segment.enc_all, Segment.enc_len, Group.enc, Group.encC_all, Group.enc_0, Group.enc_1, Group.enc_2, Group.enc_3, Group.enc_4, Group.enc_all, Group.enc_len, List.getElem?_map, Option.map_some, List.length_map, map_clC, map_nmC, ei64_0, eu8_0, eL_0, h1, h4, h5, g]
      have hno : refGrpNo t a ⟨id, seg, off, acc, slack⟩ = true := by
        simp only [refGrpNo, refGrpBad, g]; by_cases a1 : id ≤ a <;> by_cases a2 : 65535 < id <;> simp [a1, a2]
      simp only [refGrpFirst, hno, if_true, kst, Option.isNone_some, Option.getD_some, Bool.false_eq_true, if_false]
      all_goals ((repeat' (first | with_reducible rfl | with_reducible contradiction | split)) <;> (first | with_reducible rfl | (simp_all; done) | (simp_all; omega) | omega))
    · simp (maxSteps := 4000000) only [↓r51_6, ↓r51_15,  go_sem, ↓reduceIte, Nat.reduceMul, Int.reduceLT, Int.reduceNeg, Int.reduceEq, Int.reduceLE, Int.reduceAdd, Int.reduceSub, Nat.reduceEqDiff, Nat.reduceLeDiff, Nat.reduceLT, Nat.reduceAdd, reduceCtorEq, Track.encC_all, Track.enc_0, Track.enc_1, Track.enc_all, Track.enc_len, Segment.encC_all, Segment.enc_0, Segment.enc_1, Segment.enc_2, Segment.enc_all, Segment.enc_len, Group.enc, Group.encC_all, Group.enc_0, Group.enc_1, Group.enc_2, Group.enc_3, Group.enc_4, Group.enc_all, Group.enc_len, List.getElem?_map, Option.map_some, List.length_map, map_clC, map_nmC, ei64_0, eu8_0, eL_0, h1, h4, h5, g, g']
      have hno : refGrpNo t a ⟨id, seg, off, acc, slack⟩ = true := by
        simp only [refGrpNo, refGrpBad, g, g']; by_cases a1 : id ≤ a <;> by_cases a2 : 65535 < id <;> simp [a1, a2]
      simp only [refGrpFirst, hno, if_true, kst, Option.isNone_some, Option.getD_some, Bool.false_eq_true, if_false]
      all_goals ((repeat' (first | with_reducible rfl | with_reducible contradiction | split)) <;> (first | with_reducible rfl | (simp_all; done) | (simp_all; omega) | omega))
    · obtain ⟨s, hs'⟩ := get_ex g'
      simp (maxSteps := 4000000) only [↓r51_6, ↓r51_15,  go_sem, ↓reduceIte, Nat.reduceMul, Int.reduceLT, Int.reduceNeg, Int.reduceEq, Int.reduceLE, Int.reduceAdd, Int.reduceSub, Nat.reduceEqDiff, Nat.reduceLeDiff, Nat.reduceLT, Nat.reduceAdd, reduceCtorEq, Track.encC_all, Track.enc_0, Track.enc_1, Track.enc_all, Track.enc_len, Segment.encC_all, Segment.enc_0, Segment.enc_1, Segment.enc_2, Segment.enc_all, Segment.enc_len, Group.enc, Group.encC_all, Group.enc_0, Group.enc_1, Group.enc_2, Group.enc_3, Group.enc_4, Group.enc_all, Group.enc_len, List.getElem?_map, Option.map_some, List.length_map, map_clC, map_nmC, ei64_0, eu8_0, eL_0, h1, h4, h5, nat_neg, len_le g', hs', ih]
      by_cases hno : refGrpNo t a ⟨id, n, off, acc, slack⟩ = true
      · simp only [refGrpFirst, hno, if_true, kst, Option.isNone_some, Option.getD_some, Bool.false_eq_true, if_false]
        simp only [refGrpNo, refGrpBad, refGrpOut, nat_neg, len_le g', Int.toNat_natCast, hs'] at hno
        all_goals ((repeat' (first | with_reducible rfl | with_reducible contradiction | split)) <;> (first | with_reducible rfl | (simp_all; done) | (simp_all; omega) | omega))
      · simp only [refGrpFirst, hno, if_false, kst]
        simp only [refGrpNo, refGrpBad, refGrpOut, nat_neg, len_le g', Int.toNat_natCast, hs'] at hno
        all_goals ((repeat' (first | with_reducible rfl | with_reducible contradiction | split)) <;> (first | with_reducible rfl | (simp_all; done) | (simp_all; omega) | omega))

end
end Go.Ab
namespace Go.Ab
section
variable {ext : Callee}
def refTrk (t : Track) : Int × Int :=
  if (t.segments.length : Int) < 1 then (13, 0) else if 200 < (t.segments.length : Int) then (13, 0) else if 400 < (t.groups.length : Int) then (13, 0) else
  if (segFirst t.segments.length 0 t.segments).isNone = true then (if (refGrpFirst t 0 0 t.groups).isNone = true then (0, 0) else (16, ((refGrpFirst t 0 0 t.groups).getD 0 : Nat))) else (11, ((segFirst t.segments.length 0 t.segments).getD 0 : Nat))
set_option maxHeartbeats 4000000 in
theorem c51 {H : Heap} (t : Track) (hz : t.Sz) : callL tab ext 51 [.agg ((Track.enc t).map .d)] H = some (.tup [.I (refTrk t).1, .I (refTrk t).2], H) := by
  have hl := l51_0 (ext := ext) t H hz t.segments 0 rfl
  have hl2 := l51_1 (ext := ext) t H hz t.groups 0 0 rfl
  simp only [nat_0] at hl hl2
  rw [cl_51 rfl, B51]
  simp (maxSteps := 4000000) only [↓r51_6, ↓r51_15,  go_sem, ↓reduceIte, Nat.reduceMul, Int.reduceLT, Int.reduceNeg, Int.reduceEq, Int.reduceLE, Int.reduceAdd, Int.reduceSub, Nat.reduceEqDiff, Nat.reduceLeDiff, Nat.reduceLT, Nat.reduceAdd, reduceCtorEq, Track.encC_all, Track.enc_0, Track.enc_1, Track.enc_all, Track.enc_len, List.getElem?_map, Option.map_some, List.length_map, map_clC, map_nmC, ei64_0, eu8_0, eL_0, hl, hl2]
  simp only [refTrk]
  all_goals ((repeat' (first | with_reducible rfl | with_reducible contradiction | split)) <;> (first | with_reducible rfl | (simp_all; done) | (simp_all; omega) | omega))
theorem refGrp_in (t : Track) : ∀ (r : List Group) (i : Nat) (a : Int), (refGrpFirst t i a r).isNone = true → ∀ k ∈ r, ∃ n : Nat, k.segment = n ∧ n < t.segments.length
  | [], _, _, _, k, hk => by cases hk
  | x :: r, i, a, h, k, hk => by
    simp only [refGrpFirst] at h
    by_cases hb : refGrpNo t a x = true
    · rw [if_pos hb] at h; cases h
    · rw [if_neg hb] at h
      rcases List.mem_cons.1 hk with rfl | hk
      · rcases seg_cases t.segments.length k.segment with h1 | ⟨h1, h1'⟩ | ⟨n, h1, h2⟩
        · exact (hb (by simp only [refGrpNo, refGrpBad, h1]; by_cases a1 : k.id ≤ a <;> by_cases a2 : 65535 < k.id <;> simp [a1, a2])).elim
        · exact (hb (by simp only [refGrpNo, refGrpBad, h1, h1']; by_cases a1 : k.id ≤ a <;> by_cases a2 : 65535 < k.id <;> simp [a1, a2])).elim
        · exact ⟨n, h1, h2⟩
      · exact refGrp_in t r _ _ h k hk
theorem refTrk_in {t : Track} (h : (refTrk t).1 = 0) : InT t (t.groups.map (·.segment)) := by
  have : (refGrpFirst t 0 0 t.groups).isNone = true := by
    simp only [refTrk] at h
    repeat' split at h
    all_goals (first | (simp_all; done) | assumption)
  intro x hx
  obtain ⟨k, hk, rfl⟩ := List.mem_map.1 hx
  exact refGrp_in t _ _ _ this k hk
set_option maxHeartbeats 4000000 in
theorem l15_0 (c : Config) (t : Track) (H : Heap) (hz : t.Sz) (hok : InT t (t.groups.map (·.segment))) : ∀ (r : List Group) (i : Nat), t.groups.drop i = r →
    runL tab ext k15_0 ⟨(upd (upd (upd und 8 (.I i)) 3 (.c (.ptr (pid H 1) 0))) 2 (.c (.ptr (pid H 0) 0))), hp H [⟨true, (Config.enc c).map .d⟩, ⟨true, (Track.enc t).map .d⟩]⟩ =
    if (fitFirst c t i r).isNone = true then some (.exit 0, ⟨und, hp H [⟨true, (Config.enc c).map .d⟩, ⟨true, (Track.enc t).map .d⟩]⟩) else some (.ret, ⟨(upd (upd und 5 (.I ((fitFirst c t i r).getD 0 : Nat))) 4 (.I 11)), hp H [⟨true, (Config.enc c).map .d⟩, ⟨true, (Track.enc t).map .d⟩]⟩)
  | [], i, hs => by
    have h0 := dr_end hs
    rw [s15_0, b15_0]
    simp (maxSteps := 4000000) only [↓r15_11,  go_sem, ↓reduceIte, Nat.reduceMul, Int.reduceLT, Int.reduceNeg, Int.reduceEq, Int.reduceLE, Int.reduceAdd, Int.reduceSub, Nat.reduceEqDiff, Nat.reduceLeDiff, Nat.reduceLT, Nat.reduceAdd, reduceCtorEq, Config.encC_all, Config.enc_0, Config.enc_1, Config.enc_10, Config.enc_11, Config.enc_12, Config.enc_13, Config.enc_2, Config.enc_3, Config.enc_4, Config.enc_5, Config.enc_6, Config.enc_7, Config.enc_8, Config.enc_9, Config.enc_all, Config.enc_len, Track.encC_all, Track.enc_0, Track.enc_1, Track.enc_all, Track.enc_len, Group.enc, Group.encC_all, Group.enc_0, Group.enc_1, Group.enc_2, Group.enc_3, Group.enc_4, Group.enc_all, Group.enc_len, List.getElem?_map, Option.map_some, List.length_map, map_clC, map_nmC, ei64_0, eu8_0, eL_0, h0]
    simp only [fitFirst, kst, Option.isNone_none, if_true]
  | k :: r, i, hs => by
    obtain ⟨h1, h2, h3⟩ := dr_cons hs
    have ih := l15_0 c t H hz hok r (i + 1) h3
    have h4 := dr_lt h2
    have h5 := w64_inc h2 hz.grps
    obtain ⟨n, hn, hlt⟩ := hok k.segment (List.mem_map_of_mem (List.mem_of_getElem? h1))
    obtain ⟨s, hsg⟩ := get_ex hlt
    rw [s15_0, b15_0]
    simp (maxSteps := 4000000) only [↓r15_11,  go_sem, ↓reduceIte, Nat.reduceMul, Int.reduceLT, Int.reduceNeg, Int.reduceEq, Int.reduceLE, Int.reduceAdd, Int.reduceSub, Nat.reduceEqDiff, Nat.reduceLeDiff, Nat.reduceLT, Nat.reduceAdd, reduceCtorEq, Config.encC_all, Config.enc_0, Config.enc_1, Config.enc_10, Config.enc_11, Config.enc_12, Config.enc_13, Config.enc_2, Config.enc_3, Config.enc_4, Config.enc_5, Config.enc_6, Config.enc_7, Config.enc_8, Config.enc_9, Config.enc_all, Config.enc_len, Track.encC_all, Track.enc_0, Track.enc_1, Track.enc_all, Track.enc_len, Segment.encC_all, Segment.enc_0, Segment.enc_1, Segment.enc_2, Segment.enc_all, Segment.enc_len, Group.enc, Group.encC_all, Group.enc_0, Group.enc_1, Group.enc_2, Group.enc_3, Group.enc_4, Group.enc_all, Group.enc_len, List.getElem?_map, Option.map_some, List.length_map, map_clC, map_nmC, ei64_0, eu8_0, eL_0, h1, h4, h5, ih, hn, hsg]
    simp only [fitFirst, fitBad, segLen, hn, Int.toNat_natCast, hsg, kst]
    all_goals ((repeat' (first | with_reducible rfl | with_reducible contradiction | split)) <;> (first | with_reducible rfl | (simp_all; done) | (simp_all; omega) | omega))
def refFits (c : Config) (t : Track) : Int × Int :=
  if ¬ refWrong c = 0 then (50, 0) else if ¬ (refTrk t).1 = 0 then (51, 0) else if (fitFirst c t 0 t.groups).isNone = true then (0, 0) else (11, ((fitFirst c t 0 t.groups).getD 0 : Nat))
set_option maxHeartbeats 4000000 in
theorem c15 {H : Heap} (c : Config) (t : Track) (hz : t.Sz) : callL tab ext 15 [.agg ((Config.enc c).map .d), .agg ((Track.enc t).map .d)] H = some (.tup [.I (refFits c t).1, .I (refFits c t).2], H) := by
  have hc := fun H => c51 (ext := ext) (H := H) t hz
  rw [cl_15 rfl, B15]
  by_cases ht : (refTrk t).1 = 0
  · have hl := l15_0 (ext := ext) c t H hz (refTrk_in ht) t.groups 0 rfl
    simp only [nat_0] at hl
    simp (maxSteps := 4000000) only [↓r15_11,  go_sem, ↓reduceIte, Nat.reduceMul, Int.reduceLT, Int.reduceNeg, Int.reduceEq, Int.reduceLE, Int.reduceAdd, Int.reduceSub, Nat.reduceEqDiff, Nat.reduceLeDiff, Nat.reduceLT, Nat.reduceAdd, reduceCtorEq, Config.encC_all, Config.enc_0, Config.enc_1, Config.enc_10, Config.enc_11, Config.enc_12, Config.enc_13, Config.enc_2, Config.enc_3, Config.enc_4, Config.enc_5, Config.enc_6, Config.enc_7, Config.enc_8, Config.enc_9, Config.enc_all, Config.enc_len, Track.encC_all, Track.enc_0, Track.enc_1, Track.enc_all, Track.enc_len, List.getElem?_map, Option.map_some, List.length_map, map_clC, map_nmC, ei64_0, eu8_0, eL_0, hl, c50, hc, ht]
    simp only [refFits, ht]
    all_goals ((repeat' (first | with_reducible rfl | with_reducible contradiction | split)) <;> (first | with_reducible rfl | (simp_all; done) | (simp_all; omega) | omega))
  · simp (maxSteps := 4000000) only [↓r15_11,  go_sem, ↓reduceIte, Nat.reduceMul, Int.reduceLT, Int.reduceNeg, Int.reduceEq, Int.reduceLE, Int.reduceAdd, Int.reduceSub, Nat.reduceEqDiff, Nat.reduceLeDiff, Nat.reduceLT, Nat.reduceAdd, reduceCtorEq, Config.encC_all, Config.enc_0, Config.enc_1, Config.enc_10, Config.enc_11, Config.enc_12, Config.enc_13, Config.enc_2, Config.enc_3, Config.enc_4, Config.enc_5, Config.enc_6, Config.enc_7, Config.enc_8, Config.enc_9, Config.enc_all, Config.enc_len, Track.encC_all, Track.enc_0, Track.enc_1, Track.enc_all, Track.enc_len, List.getElem?_map, Option.map_some, List.length_map, map_clC, map_nmC, ei64_0, eu8_0, eL_0, c50, hc, ht]
    simp only [refFits, ht]
    all_goals ((repeat' (first | with_reducible rfl | with_reducible contradiction | split)) <;> (first | with_reducible rfl | (simp_all; done) | (simp_all; omega) | omega))
def hasB (b : Int) : List Int → Bool
  | [] => false
  | k :: r => if k = b then true else hasB b r
theorem idx_has (b : Int) : ∀ (r : List Int) (i : Nat), decide (0 ≤ idxGo b i r) = hasB b r
  | [], i => by simp [idxGo, hasB]
  | k :: r, i => by
    by_cases h : b = k
    · simp [idxGo, hasB, h]
    · have h' : ¬ k = b := fun e => h e.symm
      simp only [idxGo, hasB, if_neg h, if_neg h']
      exact idx_has b r (i + 1)
set_option maxHeartbeats 4000000 in
theorem l103_0 (t : Track) (n : Nat) (s : Segment) (b : Int) (H : Heap) (hs0 : t.segments[n]? = some s) (hn : s.next.length < 2 ^ 63) : ∀ (r : List Int) (i : Nat), s.next.drop i = r →
    runL tab ext k103_0 ⟨(upd (upd (upd (upd und 7 (.I i)) 3 (.c (.ptr (pid H 0) 0))) 2 (.I b)) 1 (.I n)), hp H [⟨true, (Track.enc t).map .d⟩]⟩ =
    if hasB b r = true then some (.ret, ⟨(upd und 6 (.B true)), hp H [⟨true, (Track.enc t).map .d⟩]⟩) else some (.exit 0, ⟨und, hp H [⟨true, (Track.enc t).map .d⟩]⟩)
  | [], i, hs => by
    have h0 := dr_end hs
    rw [s103_0, b103_0]
    simp (maxSteps := 4000000) only [ go_sem, ↓reduceIte, Nat.reduceMul, Int.reduceLT, Int.reduceNeg, Int.reduceEq, Int.reduceLE, Int.reduceAdd, Int.reduceSub, Nat.reduceEqDiff, Nat.reduceLeDiff, Nat.reduceLT, Nat.reduceAdd, reduceCtorEq, Track.encC_all, Track.enc_0, Track.enc_1, Track.enc_all, Track.enc_len, Segment.encC_all, Segment.enc_0, Segment.enc_1, Segment.enc_2, Segment.enc_all, Segment.enc_len, List.getElem?_map, Option.map_some, List.length_map, map_clC, map_nmC, ei64_0, eu8_0, eL_0, h0, hs0]
    simp only [hasB, kst, Bool.false_eq_true, if_false]
  | k :: r, i, hs => by
    obtain ⟨h1, h2, h3⟩ := dr_cons hs
    have ih := l103_0 t n s b H hs0 hn r (i + 1) h3
    have h4 := dr_lt h2
    have h5 := w64_inc h2 hn
    rw [s103_0, b103_0]
    simp (maxSteps := 4000000) only [ go_sem, ↓reduceIte, Nat.reduceMul, Int.reduceLT, Int.reduceNeg, Int.reduceEq, Int.reduceLE, Int.reduceAdd, Int.reduceSub, Nat.reduceEqDiff, Nat.reduceLeDiff, Nat.reduceLT, Nat.reduceAdd, reduceCtorEq, Track.encC_all, Track.enc_0, Track.enc_1, Track.enc_all, Track.enc_len, Segment.encC_all, Segment.enc_0, Segment.enc_1, Segment.enc_2, Segment.enc_all, Segment.enc_len, List.getElem?_map, Option.map_some, List.length_map, map_clC, map_nmC, ei64_0, eu8_0, eL_0, h1, h4, h5, ih, hs0]
    simp only [hasB, kst]
    all_goals ((repeat' (first | with_reducible rfl | with_reducible contradiction | split)) <;> (first | with_reducible rfl | (simp_all; done) | (simp_all; omega) | omega))
set_option maxHeartbeats 4000000 in
theorem c103 {H : Heap} (t : Track) (a b : Int) (hz : t.Sz) : callL tab ext 103 [.agg ((Track.enc t).map .d), .I a, .I b] H = some (.B (follows t a b), H) := by
  rw [cl_103 rfl, B103]
  rcases seg_cases t.segments.length a with h | ⟨h, h'⟩ | ⟨n, rfl, h⟩
  · simp (maxSteps := 4000000) only [go_sem, ↓reduceIte, Nat.reduceMul, Int.reduceLT, Int.reduceNeg, Int.reduceEq, Int.reduceLE, Int.reduceAdd, Int.reduceSub, Nat.reduceEqDiff, Nat.reduceLeDiff, Nat.reduceLT, Nat.reduceAdd, reduceCtorEq, Track.encC_all, Track.enc_0, Track.enc_1, Track.enc_all, Track.enc_len, List.getElem?_map, Option.map_some, List.length_map, map_clC, map_nmC, ei64_0, eu8_0, eL_0, h]
    simp only [follows, if_pos h]
  · simp (maxSteps := 4000000) only [go_sem, ↓reduceIte, Nat.reduceMul, Int.reduceLT, Int.reduceNeg, Int.reduceEq, Int.reduceLE, Int.reduceAdd, Int.reduceSub, Nat.reduceEqDiff, Nat.reduceLeDiff, Nat.reduceLT, Nat.reduceAdd, reduceCtorEq, Track.encC_all, Track.enc_0, Track.enc_1, Track.enc_all, Track.enc_len, List.getElem?_map, Option.map_some, List.length_map, map_clC, map_nmC, ei64_0, eu8_0, eL_0, h, h']
    simp only [follows, if_neg h, get_none h h']
  · obtain ⟨s, hs⟩ := get_ex h
    have hl := l103_0 (ext := ext) t n s b H hs (hz.each s (List.mem_of_getElem? hs)).1 s.next 0 rfl
    simp only [nat_0] at hl
    simp (maxSteps := 4000000) only [go_sem, ↓reduceIte, Nat.reduceMul, Int.reduceLT, Int.reduceNeg, Int.reduceEq, Int.reduceLE, Int.reduceAdd, Int.reduceSub, Nat.reduceEqDiff, Nat.reduceLeDiff, Nat.reduceLT, Nat.reduceAdd, reduceCtorEq, Track.encC_all, Track.enc_0, Track.enc_1, Track.enc_all, Track.enc_len, List.getElem?_map, Option.map_some, List.length_map, map_clC, map_nmC, ei64_0, eu8_0, eL_0, nat_neg, len_le h, hl]
    simp only [follows, nat_neg, Int.toNat_natCast, hs, if_false, idx_has]
    all_goals ((repeat' (first | with_reducible rfl | with_reducible contradiction | split)) <;> (first | with_reducible rfl | (simp_all; done) | (simp_all; omega) | omega))

end
end Go.Ab
namespace Go.Ab
section
variable {ext : Callee}
set_option maxHeartbeats 4000000 in
theorem l104_0 (t : Track) (l : List Int) (n : Nat) (H : Heap) (hle : n ≤ l.length) (hin : InT t (l.take n)) (hn : l.length < 2 ^ 63) : ∀ (r : List Int) (i : Nat) (a : Int), (l.take n).drop i = r →
    runL tab ext k104_0 ⟨(upd (upd (upd (upd (upd und 8 (.I i)) 7 (.I a)) 3 (.c (.ptr (pid H 0) 0))) 2 (.I n)) 1 (VL 1 ei64 l)), hp H [⟨true, (Track.enc t).map .d⟩]⟩ =
    some (.exit 0, ⟨(upd und 7 (.I (startGo t a r))), hp H [⟨true, (Track.enc t).map .d⟩]⟩)
  | [], i, a, hs => by
    have h0 : ((i : Int) < (n : Int)) = False := by
      have := dr_end hs; simp only [List.length_take, Nat.min_eq_left hle] at this; exact this
    rw [s104_0, b104_0]
    simp (maxSteps := 4000000) only [↓r104_5,  go_sem, ↓reduceIte, Nat.reduceMul, Int.reduceLT, Int.reduceNeg, Int.reduceEq, Int.reduceLE, Int.reduceAdd, Int.reduceSub, Nat.reduceEqDiff, Nat.reduceLeDiff, Nat.reduceLT, Nat.reduceAdd, reduceCtorEq, Track.encC_all, Track.enc_0, Track.enc_1, Track.enc_all, Track.enc_len, Segment.encC_all, Segment.enc_0, Segment.enc_1, Segment.enc_2, Segment.enc_all, Segment.enc_len, List.getElem?_map, Option.map_some, List.length_map, map_clC, map_nmC, ei64_0, eu8_0, eL_0, h0]
    simp only [startGo, kst]
  | k :: r, i, a, hs => by
    obtain ⟨h1, h2, h3⟩ := dr_cons hs
    simp only [List.length_take, Nat.min_eq_left hle] at h2
    have ih := fun a => l104_0 t l n H hle hin hn r (i + 1) a h3
    have h4 := dr_lt h2
    have h5 := w64_inc h2 (by omega)
    obtain ⟨m, rfl, hlt⟩ := hin k (List.mem_of_getElem? h1)
    have h1 := take_get h1
    obtain ⟨s, hsg⟩ := get_ex hlt
    rw [s104_0, b104_0]
    simp (maxSteps := 4000000) only [↓r104_5,  go_sem, ↓reduceIte, Nat.reduceMul, Int.reduceLT, Int.reduceNeg, Int.reduceEq, Int.reduceLE, Int.reduceAdd, Int.reduceSub, Nat.reduceEqDiff, Nat.reduceLeDiff, Nat.reduceLT, Nat.reduceAdd, reduceCtorEq, Track.encC_all, Track.enc_0, Track.enc_1, Track.enc_all, Track.enc_len, Segment.encC_all, Segment.enc_0, Segment.enc_1, Segment.enc_2, Segment.enc_all, Segment.enc_len, List.getElem?_map, Option.map_some, List.length_map, map_clC, map_nmC, ei64_0, eu8_0, eL_0, h1, h4, h5, ih, hsg]
    simp only [startGo, segLen, Int.toNat_natCast, hsg, kst]
set_option maxHeartbeats 4000000 in
theorem c104 {H : Heap} (t : Track) (l : List Int) (n : Nat) (hin : InT t (l.take n)) (hn : l.length < 2 ^ 63) (hle : n ≤ l.length) : callL tab ext 104 [.agg ((Track.enc t).map .d), VL 1 ei64 l, .I n] H = some (.I (startGo t 0 (l.take n)), H) := by
  have hl := fun a => l104_0 (ext := ext) t l n H hle hin hn (l.take n) 0 a rfl
  simp only [nat_0] at hl
  rw [cl_104 rfl, B104]
  simp (maxSteps := 4000000) only [↓r104_5,  go_sem, ↓reduceIte, Nat.reduceMul, Int.reduceLT, Int.reduceNeg, Int.reduceEq, Int.reduceLE, Int.reduceAdd, Int.reduceSub, Nat.reduceEqDiff, Nat.reduceLeDiff, Nat.reduceLT, Nat.reduceAdd, reduceCtorEq, Track.encC_all, Track.enc_0, Track.enc_1, Track.enc_all, Track.enc_len, List.getElem?_map, Option.map_some, List.length_map, map_clC, map_nmC, ei64_0, eu8_0, eL_0, hl]
set_option maxHeartbeats 4000000 in
theorem l52_0 (t : Track) (l : List Int) (H : Heap) (hz : t.Sz) (hn : l.length < 2 ^ 63) : ∀ (r : List Int) (i : Nat) (q : Option Int), l.drop i = r → q = prevOf l i →
    runL tab ext k52_0 ⟨(upd (upd (upd und 5 (.I i)) 2 (.c (.ptr (pid H 0) 0))) 1 (VL 1 ei64 l)), hp H [⟨true, (Track.enc t).map .d⟩]⟩ =
    if routeGo t q r = true then some (.exit 0, ⟨und, hp H [⟨true, (Track.enc t).map .d⟩]⟩) else some (.ret, ⟨(upd und 4 (.B false)), hp H [⟨true, (Track.enc t).map .d⟩]⟩)
  | [], i, q, hs, hq => by
    have h0 := dr_end hs
    rw [s52_0, b52_0]
    simp (maxSteps := 4000000) only [↓r52_6, ↓r52_8,  go_sem, ↓reduceIte, Nat.reduceMul, Int.reduceLT, Int.reduceNeg, Int.reduceEq, Int.reduceLE, Int.reduceAdd, Int.reduceSub, Nat.reduceEqDiff, Nat.reduceLeDiff, Nat.reduceLT, Nat.reduceAdd, reduceCtorEq, Track.encC_all, Track.enc_0, Track.enc_1, Track.enc_all, Track.enc_len, List.getElem?_map, Option.map_some, List.length_map, map_clC, map_nmC, ei64_0, eu8_0, eL_0, h0]
    simp only [routeGo, kst, if_true]
  | k :: r, i, q, hs, hq => by
    obtain ⟨h1, h2, h3⟩ := dr_cons hs
    have ih := l52_0 t l H hz hn r (i + 1) (some k) h3 h1.symm
    subst hq
    have h4 := dr_lt h2
    have h5 := w64_inc h2 hn
    have hf := fun H a b => c103 (ext := ext) (H := H) t a b hz
    rw [s52_0, b52_0]
    cases i with
    | zero =>
      simp only [nat_0, Nat.zero_add, nat_1] at h4 h5 ih ⊢
      simp (maxSteps := 4000000) only [↓r52_6, ↓r52_8,  go_sem, ↓reduceIte, Nat.reduceMul, Int.reduceLT, Int.reduceNeg, Int.reduceEq, Int.reduceLE, Int.reduceAdd, Int.reduceSub, Nat.reduceEqDiff, Nat.reduceLeDiff, Nat.reduceLT, Nat.reduceAdd, reduceCtorEq, Track.encC_all, Track.enc_0, Track.enc_1, Track.enc_all, Track.enc_len, List.getElem?_map, Option.map_some, List.length_map, map_clC, map_nmC, ei64_0, eu8_0, eL_0, h1, h4, h5, ih, hf]
      simp only [routeGo, routeBad, prevOf, h1, kst]
      all_goals ((repeat' (first | with_reducible rfl | with_reducible contradiction | split)) <;> (first | with_reducible rfl | (simp_all; done) | (simp_all; omega) | omega))
    | succ m =>
      have h6 := w64_dec h2 hn
      obtain ⟨z, h7⟩ := get_ex (l := l) (n := m) (by omega)
      simp (maxSteps := 4000000) only [↓r52_6, ↓r52_8,  go_sem, ↓reduceIte, Nat.reduceMul, Int.reduceLT, Int.reduceNeg, Int.reduceEq, Int.reduceLE, Int.reduceAdd, Int.reduceSub, Nat.reduceEqDiff, Nat.reduceLeDiff, Nat.reduceLT, Nat.reduceAdd, reduceCtorEq, Track.encC_all, Track.enc_0, Track.enc_1, Track.enc_all, Track.enc_len, List.getElem?_map, Option.map_some, List.length_map, map_clC, map_nmC, ei64_0, eu8_0, eL_0, h1, h4, h5, ih, h6, h7, pos_succ, hf]
      simp only [routeGo, routeBad, prevOf, h7, h1, kst]
      all_goals ((repeat' (first | with_reducible rfl | with_reducible contradiction | split)) <;> (first | with_reducible rfl | (simp_all; done) | (simp_all; omega) | omega))
def refRoute (t : Track) (l : List Int) : Bool := if (l.length : Int) < 1 then false else if 400 < (l.length : Int) then false else routeGo t none l
set_option maxHeartbeats 4000000 in
theorem c52 {H : Heap} (t : Track) (l : List Int) (hz : t.Sz) (hn : l.length < 2 ^ 63) : callL tab ext 52 [.agg ((Track.enc t).map .d), VL 1 ei64 l] H = some (.B (refRoute t l), H) := by
  have hl := l52_0 (ext := ext) t l H hz hn l 0 none rfl rfl
  simp only [nat_0] at hl
  rw [cl_52 rfl, B52]
  simp (maxSteps := 4000000) only [↓r52_6, ↓r52_8,  go_sem, ↓reduceIte, Nat.reduceMul, Int.reduceLT, Int.reduceNeg, Int.reduceEq, Int.reduceLE, Int.reduceAdd, Int.reduceSub, Nat.reduceEqDiff, Nat.reduceLeDiff, Nat.reduceLT, Nat.reduceAdd, reduceCtorEq, Track.encC_all, Track.enc_0, Track.enc_1, Track.enc_all, Track.enc_len, List.getElem?_map, Option.map_some, List.length_map, map_clC, map_nmC, ei64_0, eu8_0, eL_0, hl]
  simp only [refRoute]
  all_goals ((repeat' (first | with_reducible rfl | with_reducible contradiction | split)) <;> (first | with_reducible rfl | (simp_all; done) | (simp_all; omega) | omega))
def refOnGo (len : Int) : Int → List RTick → Bool
  | _, [] => true
  | a, k :: r => if far k.v len = true then false else if w64 (a + k.v) < 0 then false else if len < w64 (a + k.v) then false else refOnGo len (w64 (a + k.v)) r
set_option maxHeartbeats 4000000 in
theorem l53_0 (len : Int) (b0 : Box) (s : RScript) (H : Heap) (hn : s.ticks.length < 2 ^ 63) : ∀ (r : List RTick) (i : Nat) (a : Int), s.ticks.drop i = r →
    runL tab ext k53_0 ⟨(upd (upd (upd (upd und 7 (.I i)) 6 (.I a)) 5 (.I len)) 3 (.c (.ptr (pid H 1) 0))), hp H [b0, ⟨true, (RScript.enc s).map .d⟩]⟩ =
    if refOnGo len a r = true then some (.exit 0, ⟨und, hp H [b0, ⟨true, (RScript.enc s).map .d⟩]⟩) else some (.ret, ⟨(upd und 4 (.B false)), hp H [b0, ⟨true, (RScript.enc s).map .d⟩]⟩)
  | [], i, a, hs => by
    have h0 := dr_end hs
    rw [s53_0, b53_0]
    simp (maxSteps := 4000000) only [ go_sem, ↓reduceIte, Nat.reduceMul, Int.reduceLT, Int.reduceNeg, Int.reduceEq, Int.reduceLE, Int.reduceAdd, Int.reduceSub, Nat.reduceEqDiff, Nat.reduceLeDiff, Nat.reduceLT, Nat.reduceAdd, reduceCtorEq, RScript.encC_all, RScript.enc_0, RScript.enc_1, RScript.enc_2, RScript.enc_3, RScript.enc_4, RScript.enc_5, RScript.enc_6, RScript.enc_7, RScript.enc_8, RScript.enc_all, RScript.enc_len, RScript.subC_3_2, RScript.subC_5_2, RScript.sub_3_2, RScript.sub_5_2, RTick.encC_all, RTick.enc_0, RTick.enc_1, RTick.enc_10, RTick.enc_2, RTick.enc_3, RTick.enc_4, RTick.enc_5, RTick.enc_6, RTick.enc_7, RTick.enc_8, RTick.enc_9, RTick.enc_all, RTick.enc_len, RTick.subC_1_2, RTick.subC_5_4, RTick.sub_1_2, RTick.sub_5_4, List.getElem?_map, Option.map_some, List.length_map, map_clC, map_nmC, ei64_0, eu8_0, eL_0, h0]
    simp only [refOnGo, kst, if_true]
  | k :: r, i, a, hs => by
    obtain ⟨h1, h2, h3⟩ := dr_cons hs
    have ih := fun a => l53_0 len b0 s H hn r (i + 1) a h3
    have h4 := dr_lt h2
    have h5 := w64_inc h2 hn
    rw [s53_0, b53_0]
    simp (maxSteps := 4000000) only [ go_sem, ↓reduceIte, Nat.reduceMul, Int.reduceLT, Int.reduceNeg, Int.reduceEq, Int.reduceLE, Int.reduceAdd, Int.reduceSub, Nat.reduceEqDiff, Nat.reduceLeDiff, Nat.reduceLT, Nat.reduceAdd, reduceCtorEq, RScript.encC_all, RScript.enc_0, RScript.enc_1, RScript.enc_2, RScript.enc_3, RScript.enc_4, RScript.enc_5, RScript.enc_6, RScript.enc_7, RScript.enc_8, RScript.enc_all, RScript.enc_len, RScript.subC_3_2, RScript.subC_5_2, RScript.sub_3_2, RScript.sub_5_2, RTick.encC_all, RTick.enc_0, RTick.enc_1, RTick.enc_10, RTick.enc_2, RTick.enc_3, RTick.enc_4, RTick.enc_5, RTick.enc_6, RTick.enc_7, RTick.enc_8, RTick.enc_9, RTick.enc_all, RTick.enc_len, RTick.subC_1_2, RTick.subC_5_4, RTick.sub_1_2, RTick.sub_5_4, List.getElem?_map, Option.map_some, List.length_map, map_clC, map_nmC, ei64_0, eu8_0, eL_0, h1, h4, h5, ih, c77]
    simp only [refOnGo, kst]
    all_goals ((repeat' (first | with_reducible rfl | with_reducible contradiction | split)) <;> (first | with_reducible rfl | (simp_all; done) | (simp_all; omega) | omega))
def refOn (t : Track) (s : RScript) : Bool :=
  if 4096 < (s.ticks.length : Int) then false else if s.start < 0 then false else if startGo t 0 s.route < s.start then false else refOnGo (startGo t 0 s.route) s.start s.ticks
set_option maxHeartbeats 4000000 in
theorem c53 {H : Heap} (t : Track) (s : RScript) (hin : InT t s.route) (hn : s.route.length < 2 ^ 63) (hn2 : s.ticks.length < 2 ^ 63) : callL tab ext 53 [.agg ((Track.enc t).map .d), .agg ((RScript.enc s).map .d)] H = some (.B (refOn t s), H) := by
  have hl := fun b0 => l53_0 (ext := ext) (startGo t 0 s.route) b0 s H hn2 s.ticks 0 s.start rfl
  have hs := fun H => c104 (ext := ext) (H := H) t s.route s.route.length (by rw [List.take_length]; exact hin) hn (Nat.le_refl _)
  simp only [List.take_length] at hs
  simp only [nat_0] at hl
  rw [cl_53 rfl, B53]
  simp (maxSteps := 4000000) only [ go_sem, ↓reduceIte, Nat.reduceMul, Int.reduceLT, Int.reduceNeg, Int.reduceEq, Int.reduceLE, Int.reduceAdd, Int.reduceSub, Nat.reduceEqDiff, Nat.reduceLeDiff, Nat.reduceLT, Nat.reduceAdd, reduceCtorEq, Track.encC_all, Track.enc_0, Track.enc_1, Track.enc_all, Track.enc_len, RScript.encC_all, RScript.enc_0, RScript.enc_1, RScript.enc_2, RScript.enc_3, RScript.enc_4, RScript.enc_5, RScript.enc_6, RScript.enc_7, RScript.enc_8, RScript.enc_all, RScript.enc_len, RScript.subC_3_2, RScript.subC_5_2, RScript.sub_3_2, RScript.sub_5_2, List.getElem?_map, Option.map_some, List.length_map, map_clC, map_nmC, ei64_0, eu8_0, eL_0, hl, hs]
  simp only [refOn]
  all_goals ((repeat' (first | with_reducible rfl | with_reducible contradiction | split)) <;> (first | with_reducible rfl | (simp_all; done) | (simp_all; omega) | omega))
def refSpeedsGo (c : Config) : Int → List RTick → Bool
  | _, [] => true
  | v, k :: r => if far k.v c.maxSpeed = true then false else if far (w64 (k.v - v)) c.maxAccel = true then false else refSpeedsGo c k.v r
set_option maxHeartbeats 4000000 in
theorem l54_0 (c : Config) (s : RScript) (H : Heap) (hn : s.ticks.length < 2 ^ 63) : ∀ (r : List RTick) (i : Nat) (v : Int), s.ticks.drop i = r →
    runL tab ext k54_0 ⟨(upd (upd (upd (upd und 6 (.I i)) 5 (.I v)) 3 (.c (.ptr (pid H 1) 0))) 2 (.c (.ptr (pid H 0) 0))), hp H [⟨true, (Config.enc c).map .d⟩, ⟨true, (RScript.enc s).map .d⟩]⟩ =
    if refSpeedsGo c v r = true then some (.exit 0, ⟨und, hp H [⟨true, (Config.enc c).map .d⟩, ⟨true, (RScript.enc s).map .d⟩]⟩) else some (.ret, ⟨(upd und 4 (.B false)), hp H [⟨true, (Config.enc c).map .d⟩, ⟨true, (RScript.enc s).map .d⟩]⟩)
  | [], i, v, hs => by
    have h0 := dr_end hs
    rw [s54_0, b54_0]
    simp (maxSteps := 4000000) only [ go_sem, ↓reduceIte, Nat.reduceMul, Int.reduceLT, Int.reduceNeg, Int.reduceEq, Int.reduceLE, Int.reduceAdd, Int.reduceSub, Nat.reduceEqDiff, Nat.reduceLeDiff, Nat.reduceLT, Nat.reduceAdd, reduceCtorEq, Config.encC_all, Config.enc_0, Config.enc_1, Config.enc_10, Config.enc_11, Config.enc_12, Config.enc_13, Config.enc_2, Config.enc_3, Config.enc_4, Config.enc_5, Config.enc_6, Config.enc_7, Config.enc_8, Config.enc_9, Config.enc_all, Config.enc_len, RScript.encC_all, RScript.enc_0, RScript.enc_1, RScript.enc_2, RScript.enc_3, RScript.enc_4, RScript.enc_5, RScript.enc_6, RScript.enc_7, RScript.enc_8, RScript.enc_all, RScript.enc_len, RScript.subC_3_2, RScript.subC_5_2, RScript.sub_3_2, RScript.sub_5_2, RTick.encC_all, RTick.enc_0, RTick.enc_1, RTick.enc_10, RTick.enc_2, RTick.enc_3, RTick.enc_4, RTick.enc_5, RTick.enc_6, RTick.enc_7, RTick.enc_8, RTick.enc_9, RTick.enc_all, RTick.enc_len, RTick.subC_1_2, RTick.subC_5_4, RTick.sub_1_2, RTick.sub_5_4, List.getElem?_map, Option.map_some, List.length_map, map_clC, map_nmC, ei64_0, eu8_0, eL_0, h0]
    simp only [refSpeedsGo, kst, if_true]
  | k :: r, i, v, hs => by
    obtain ⟨h1, h2, h3⟩ := dr_cons hs
    have ih := fun v => l54_0 c s H hn r (i + 1) v h3
    have h4 := dr_lt h2
    have h5 := w64_inc h2 hn
    rw [s54_0, b54_0]
    simp (maxSteps := 4000000) only [ go_sem, ↓reduceIte, Nat.reduceMul, Int.reduceLT, Int.reduceNeg, Int.reduceEq, Int.reduceLE, Int.reduceAdd, Int.reduceSub, Nat.reduceEqDiff, Nat.reduceLeDiff, Nat.reduceLT, Nat.reduceAdd, reduceCtorEq, Config.encC_all, Config.enc_0, Config.enc_1, Config.enc_10, Config.enc_11, Config.enc_12, Config.enc_13, Config.enc_2, Config.enc_3, Config.enc_4, Config.enc_5, Config.enc_6, Config.enc_7, Config.enc_8, Config.enc_9, Config.enc_all, Config.enc_len, RScript.encC_all, RScript.enc_0, RScript.enc_1, RScript.enc_2, RScript.enc_3, RScript.enc_4, RScript.enc_5, RScript.enc_6, RScript.enc_7, RScript.enc_8, RScript.enc_all, RScript.enc_len, RScript.subC_3_2, RScript.subC_5_2, RScript.sub_3_2, RScript.sub_5_2, RTick.encC_all, RTick.enc_0, RTick.enc_1, RTick.enc_10, RTick.enc_2, RTick.enc_3, RTick.enc_4, RTick.enc_5, RTick.enc_6, RTick.enc_7, RTick.enc_8, RTick.enc_9, RTick.enc_all, RTick.enc_len, RTick.subC_1_2, RTick.subC_5_4, RTick.sub_1_2, RTick.sub_5_4, List.getElem?_map, Option.map_some, List.length_map, map_clC, map_nmC, ei64_0, eu8_0, eL_0, h1, h4, h5, ih, c77]
    simp only [refSpeedsGo, kst]
    all_goals ((repeat' (first | with_reducible rfl | with_reducible contradiction | split)) <;> (first | with_reducible rfl | (simp_all; done) | (simp_all; omega) | omega))
def refSpeeds (c : Config) (s : RScript) : Bool := if far s.v0 c.maxSpeed = true then false else refSpeedsGo c s.v0 s.ticks
set_option maxHeartbeats 4000000 in
theorem c54 {H : Heap} (c : Config) (s : RScript) (hn : s.ticks.length < 2 ^ 63) : callL tab ext 54 [.agg ((Config.enc c).map .d), .agg ((RScript.enc s).map .d)] H = some (.B (refSpeeds c s), H) := by
  have hl := fun v => l54_0 (ext := ext) c s H hn s.ticks 0 v rfl
  simp only [nat_0] at hl
  rw [cl_54 rfl, B54]
  simp (maxSteps := 4000000) only [ go_sem, ↓reduceIte, Nat.reduceMul, Int.reduceLT, Int.reduceNeg, Int.reduceEq, Int.reduceLE, Int.reduceAdd, Int.reduceSub, Nat.reduceEqDiff, Nat.reduceLeDiff, Nat.reduceLT, Nat.reduceAdd, reduceCtorEq, Config.encC_all, Config.enc_0, Config.enc_1, Config.enc_10, Config.enc_11, Config.enc_12, Config.enc_13, Config.enc_2, Config.enc_3, Config.enc_4, Config.enc_5, Config.enc_6, Config.enc_7, Config.enc_8, Config.enc_9, Config.enc_all, Config.enc_len, RScript.encC_all, RScript.enc_0, RScript.enc_1, RScript.enc_2, RScript.enc_3, RScript.enc_4, RScript.enc_5, RScript.enc_6, RScript.enc_7, RScript.enc_8, RScript.enc_all, RScript.enc_len, RScript.subC_3_2, RScript.subC_5_2, RScript.sub_3_2, RScript.sub_5_2, List.getElem?_map, Option.map_some, List.length_map, map_clC, map_nmC, ei64_0, eu8_0, eL_0, hl, c77]
  simp only [refSpeeds]
  all_goals ((repeat' (first | with_reducible rfl | with_reducible contradiction | split)) <;> (first | with_reducible rfl | (simp_all; done) | (simp_all; omega) | omega))

end
end Go.Ab
namespace Go.Ab
section
variable {ext : Callee}
def refWheelBad (c : Config) (x p : Int) : Bool := if x < c.circLo then true else if c.circHi < x then true else if p < 0 then true else decide (x ≤ p)
def refNumBad (c : Config) (k : RTick) : Bool := if far (k.slip 0) 1099511627776 = true then true else if far (k.slip 1) 1099511627776 = true then true else if far k.rad 1073741824 = true then true else far k.acc c.accErr
def refNumsGo (c : Config) : List RTick → Bool
  | [] => true
  | k :: r => if refNumBad c k = true then false else refNumsGo c r
set_option maxHeartbeats 4000000 in
theorem l55_1 (c : Config) (s : RScript) (H : Heap) (hn : s.ticks.length < 2 ^ 63) : ∀ (r : List RTick) (i : Nat), s.ticks.drop i = r →
    runL tab ext k55_1 ⟨(upd (upd (upd und 6 (.I i)) 3 (.c (.ptr (pid H 1) 0))) 2 (.c (.ptr (pid H 0) 0))), hp H [⟨true, (Config.enc c).map .d⟩, ⟨true, (RScript.enc s).map .d⟩]⟩ =
    if refNumsGo c r = true then some (.exit 2, ⟨und, hp H [⟨true, (Config.enc c).map .d⟩, ⟨true, (RScript.enc s).map .d⟩]⟩) else some (.ret, ⟨(upd und 4 (.I 6)), hp H [⟨true, (Config.enc c).map .d⟩, ⟨true, (RScript.enc s).map .d⟩]⟩)
  | [], i, hs => by
    have h0 := dr_end hs
    rw [s55_1, b55_1]
    simp (maxSteps := 4000000) only [↓r55_4,  go_sem, ↓reduceIte, Nat.reduceMul, Int.reduceLT, Int.reduceNeg, Int.reduceEq, Int.reduceLE, Int.reduceAdd, Int.reduceSub, Nat.reduceEqDiff, Nat.reduceLeDiff, Nat.reduceLT, Nat.reduceAdd, reduceCtorEq, Config.encC_all, Config.enc_0, Config.enc_1, Config.enc_10, Config.enc_11, Config.enc_12, Config.enc_13, Config.enc_2, Config.enc_3, Config.enc_4, Config.enc_5, Config.enc_6, Config.enc_7, Config.enc_8, Config.enc_9, Config.enc_all, Config.enc_len, RScript.encC_all, RScript.enc_0, RScript.enc_1, RScript.enc_2, RScript.enc_3, RScript.enc_4, RScript.enc_5, RScript.enc_6, RScript.enc_7, RScript.enc_8, RScript.enc_all, RScript.enc_len, RScript.subC_3_2, RScript.subC_5_2, RScript.sub_3_2, RScript.sub_5_2, RTick.enc, RTick.encC_all, RTick.enc_0, RTick.enc_1, RTick.enc_10, RTick.enc_2, RTick.enc_3, RTick.enc_4, RTick.enc_5, RTick.enc_6, RTick.enc_7, RTick.enc_8, RTick.enc_9, RTick.enc_all, RTick.enc_len, RTick.subC_1_2, RTick.subC_5_4, RTick.sub_1_2, RTick.sub_5_4, List.getElem?_map, Option.map_some, List.length_map, map_clC, map_nmC, ei64_0, eu8_0, eL_0, h0]
    simp only [refNumsGo, kst, if_true]
  | k :: r, i, hs => by
    obtain ⟨h1, h2, h3⟩ := dr_cons hs
    have ih := l55_1 c s H hn r (i + 1) h3
    have h4 := dr_lt h2
    have h5 := w64_inc h2 hn
    rw [s55_1, b55_1]
    simp (maxSteps := 4000000) only [↓r55_4,  go_sem, ↓reduceIte, Nat.reduceMul, Int.reduceLT, Int.reduceNeg, Int.reduceEq, Int.reduceLE, Int.reduceAdd, Int.reduceSub, Nat.reduceEqDiff, Nat.reduceLeDiff, Nat.reduceLT, Nat.reduceAdd, reduceCtorEq, Config.encC_all, Config.enc_0, Config.enc_1, Config.enc_10, Config.enc_11, Config.enc_12, Config.enc_13, Config.enc_2, Config.enc_3, Config.enc_4, Config.enc_5, Config.enc_6, Config.enc_7, Config.enc_8, Config.enc_9, Config.enc_all, Config.enc_len, RScript.encC_all, RScript.enc_0, RScript.enc_1, RScript.enc_2, RScript.enc_3, RScript.enc_4, RScript.enc_5, RScript.enc_6, RScript.enc_7, RScript.enc_8, RScript.enc_all, RScript.enc_len, RScript.subC_3_2, RScript.subC_5_2, RScript.sub_3_2, RScript.sub_5_2, RTick.enc, RTick.encC_all, RTick.enc_0, RTick.enc_1, RTick.enc_10, RTick.enc_2, RTick.enc_3, RTick.enc_4, RTick.enc_5, RTick.enc_6, RTick.enc_7, RTick.enc_8, RTick.enc_9, RTick.enc_all, RTick.enc_len, RTick.subC_1_2, RTick.subC_5_4, RTick.sub_1_2, RTick.sub_5_4, List.getElem?_map, Option.map_some, List.length_map, map_clC, map_nmC, ei64_0, eu8_0, eL_0, h1, h4, h5, ih, c77]
    simp only [refNumsGo, refNumBad, kst]
    all_goals ((repeat' (first | with_reducible rfl | with_reducible contradiction | split)) <;> (first | with_reducible rfl | (simp_all; done) | (simp_all; omega) | omega))
def refNums (c : Config) (s : RScript) : Int :=
  if refWheelBad c (s.circ 0) (s.phase 0) = true then 5 else if refWheelBad c (s.circ 1) (s.phase 1) = true then 5 else if refNumsGo c s.ticks = true then 0 else 6
set_option maxHeartbeats 4000000 in
theorem c55 {H : Heap} (c : Config) (s : RScript) (hn : s.ticks.length < 2 ^ 63) : callL tab ext 55 [.agg ((Config.enc c).map .d), .agg ((RScript.enc s).map .d)] H = some (.I (refNums c s), H) := by
  have hl := l55_1 (ext := ext) c s H hn s.ticks 0 rfl
  simp only [nat_0] at hl
  rw [cl_55 rfl, B55]
  simp only [↓s55_0, b55_0, ↓r55_4,  go_sem, ↓reduceIte, Nat.reduceMul, Int.reduceLT, Int.reduceNeg, Int.reduceEq, Int.reduceLE, Int.reduceAdd, Int.reduceSub, Nat.reduceEqDiff, Nat.reduceLeDiff, Nat.reduceLT, Nat.reduceAdd, reduceCtorEq, Config.encC_all, Config.enc_0, Config.enc_1, Config.enc_10, Config.enc_11, Config.enc_12, Config.enc_13, Config.enc_2, Config.enc_3, Config.enc_4, Config.enc_5, Config.enc_6, Config.enc_7, Config.enc_8, Config.enc_9, Config.enc_all, Config.enc_len, RScript.encC_all, RScript.enc_0, RScript.enc_1, RScript.enc_2, RScript.enc_3, RScript.enc_4, RScript.enc_5, RScript.enc_6, RScript.enc_7, RScript.enc_8, RScript.enc_all, RScript.enc_len, RScript.subC_3_2, RScript.subC_5_2, RScript.sub_3_2, RScript.sub_5_2, List.getElem?_map, Option.map_some, List.length_map, map_clC, map_nmC, ei64_0, eu8_0, eL_0, hl]
  simp only [refNums, refWheelBad, tup1_ite]
  all_goals ((repeat' (first | with_reducible rfl | with_reducible contradiction | split)) <;> (first | with_reducible rfl | (simp_all; done) | (simp_all; omega) | omega))
def manyGo (x : Int) : Int → List Span → Int
  | n, [] => n
  | n, k :: r => manyGo x (if k.lo ≤ x then (if x ≤ k.hi then w64 (n + 1) else n) else n) r
set_option maxHeartbeats 4000000 in
theorem l146_0 (l : List Span) (x : Int) (H : Heap) (hn : l.length < 2 ^ 63) : ∀ (r : List Span) (i : Nat) (n : Int), l.drop i = r →
    runL tab ext k146_0 ⟨(upd (upd (upd (upd und 6 (.I i)) 5 (.I n)) 1 (.I x)) 0 (VL 2 Span.enc l)), hp H []⟩ = some (.exit 0, ⟨(upd und 5 (.I (manyGo x n r))), hp H []⟩)
  | [], i, n, hs => by
    have h0 := dr_end hs
    rw [s146_0, b146_0]
    simp (maxSteps := 4000000) only [ go_sem, ↓reduceIte, Nat.reduceMul, Int.reduceLT, Int.reduceNeg, Int.reduceEq, Int.reduceLE, Int.reduceAdd, Int.reduceSub, Nat.reduceEqDiff, Nat.reduceLeDiff, Nat.reduceLT, Nat.reduceAdd, reduceCtorEq, Span.encC_all, Span.enc_0, Span.enc_1, Span.enc_all, Span.enc_len, List.getElem?_map, Option.map_some, List.length_map, map_clC, map_nmC, ei64_0, eu8_0, eL_0, h0]
    simp only [manyGo, kst]
  | k :: r, i, n, hs => by
    obtain ⟨h1, h2, h3⟩ := dr_cons hs
    have ih := fun n => l146_0 l x H hn r (i + 1) n h3
    have h4 := dr_lt h2
    have h5 := w64_inc h2 hn
    rw [s146_0, b146_0]
    by_cases g1 : k.lo ≤ x
    · by_cases g2 : x ≤ k.hi
      · simp (maxSteps := 4000000) only [ go_sem, ↓reduceIte, Nat.reduceMul, Int.reduceLT, Int.reduceNeg, Int.reduceEq, Int.reduceLE, Int.reduceAdd, Int.reduceSub, Nat.reduceEqDiff, Nat.reduceLeDiff, Nat.reduceLT, Nat.reduceAdd, reduceCtorEq, Span.encC_all, Span.enc_0, Span.enc_1, Span.enc_all, Span.enc_len, List.getElem?_map, Option.map_some, List.length_map, map_clC, map_nmC, ei64_0, eu8_0, eL_0, h1, h4, h5, ih, g1, g2]
        simp only [manyGo, g1, g2, if_true, kst]
      · simp (maxSteps := 4000000) only [ go_sem, ↓reduceIte, Nat.reduceMul, Int.reduceLT, Int.reduceNeg, Int.reduceEq, Int.reduceLE, Int.reduceAdd, Int.reduceSub, Nat.reduceEqDiff, Nat.reduceLeDiff, Nat.reduceLT, Nat.reduceAdd, reduceCtorEq, Span.encC_all, Span.enc_0, Span.enc_1, Span.enc_all, Span.enc_len, List.getElem?_map, Option.map_some, List.length_map, map_clC, map_nmC, ei64_0, eu8_0, eL_0, h1, h4, h5, ih, g1, g2]
        simp only [manyGo, g1, g2, if_true, if_false, kst]
    · simp (maxSteps := 4000000) only [ go_sem, ↓reduceIte, Nat.reduceMul, Int.reduceLT, Int.reduceNeg, Int.reduceEq, Int.reduceLE, Int.reduceAdd, Int.reduceSub, Nat.reduceEqDiff, Nat.reduceLeDiff, Nat.reduceLT, Nat.reduceAdd, reduceCtorEq, Span.encC_all, Span.enc_0, Span.enc_1, Span.enc_all, Span.enc_len, List.getElem?_map, Option.map_some, List.length_map, map_clC, map_nmC, ei64_0, eu8_0, eL_0, h1, h4, h5, ih, g1]
      simp only [manyGo, g1, if_false, kst]
theorem c146 {H : Heap} (l : List Span) (x : Int) (hn : l.length < 2 ^ 63) : callL tab ext 146 [VL 2 Span.enc l, .I x] H = some (.I (manyGo x 0 l), H) := by
  have hl := fun n => l146_0 (ext := ext) l x H hn l 0 n rfl
  simp only [nat_0] at hl
  rw [cl_146 rfl, B146]
  simp (maxSteps := 4000000) only [go_sem, ↓reduceIte, Nat.reduceMul, Int.reduceLT, Int.reduceNeg, Int.reduceEq, Int.reduceLE, Int.reduceAdd, Int.reduceSub, Nat.reduceEqDiff, Nat.reduceLeDiff, Nat.reduceLT, Nat.reduceAdd, reduceCtorEq, List.getElem?_map, Option.map_some, List.length_map, map_clC, map_nmC, ei64_0, eu8_0, eL_0, hl]

end
end Go.Ab
namespace Go.Ab
section
variable {ext : Callee}
def byLoGo (l : List Span) (m : Int) : Int → Bool → List Span → Int × Bool
  | a, f, [] => (a, f)
  | a, f, k :: r => if m ≤ manyGo k.lo 0 l then (if f = false then byLoGo l m k.lo true r else if k.lo < a then byLoGo l m k.lo true r else byLoGo l m a f r) else byLoGo l m a f r
def byHiGo (l : List Span) (m : Int) : Int → Bool → List Span → Int × Bool
  | a, f, [] => (a, f)
  | a, f, k :: r => if m ≤ manyGo k.hi 0 l then (if f = false then byHiGo l m k.hi true r else if a < k.hi then byHiGo l m k.hi true r else byHiGo l m a f r) else byHiGo l m a f r
set_option maxHeartbeats 4000000 in
theorem l105_0 (l : List Span) (m : Int) (b0 : Box) (b : Int) (H : Heap) (hn : l.length < 2 ^ 63) : ∀ (r : List Span) (i : Nat) (a : Int) (f : Bool), l.drop i = r →
    runL tab ext k105_0 ⟨(upd (upd (upd (upd (upd (upd und 8 (.I i)) 7 (.B f)) 6 (.c (.ptr (pid H 1) 0))) 4 (.c (.ptr (pid H 0) 0))) 1 (.I m)) 0 (VL 2 Span.enc l)), hp H [b0, ⟨true, [J a, J b]⟩]⟩ =
    some (.exit 0, ⟨(upd (upd (upd (upd (upd und 7 (.B (byLoGo l m a f r).2)) 6 (.c (.ptr (pid H 1) 0))) 4 (.c (.ptr (pid H 0) 0))) 1 (.I m)) 0 (VL 2 Span.enc l)), hp H [b0, ⟨true, [J (byLoGo l m a f r).1, J b]⟩]⟩)
  | [], i, a, f, hs => by
    have h0 := dr_end hs
    rw [s105_0, b105_0]
    simp (maxSteps := 4000000) only [↓r105_6, ↓r105_13,  go_sem, ↓reduceIte, Nat.reduceMul, Int.reduceLT, Int.reduceNeg, Int.reduceEq, Int.reduceLE, Int.reduceAdd, Int.reduceSub, Nat.reduceEqDiff, Nat.reduceLeDiff, Nat.reduceLT, Nat.reduceAdd, reduceCtorEq, Span.enc, Span.encC_all, Span.enc_0, Span.enc_1, Span.enc_all, Span.enc_len, List.getElem?_map, Option.map_some, List.length_map, map_clC, map_nmC, ei64_0, eu8_0, eL_0, h0]
    simp only [byLoGo, kst]
  | k :: r, i, a, f, hs => by
    obtain ⟨h1, h2, h3⟩ := dr_cons hs
    have ih := fun a f => l105_0 l m b0 b H hn r (i + 1) a f h3
    have h4 := dr_lt h2
    have h5 := w64_inc h2 hn
    have hc := fun H x => c146 (ext := ext) (H := H) l x hn
    rw [s105_0, b105_0]
    by_cases g1 : m ≤ manyGo k.lo 0 l
    · cases f with
      | false =>
        simp (maxSteps := 4000000) only [↓r105_6, ↓r105_13,  go_sem, ↓reduceIte, Nat.reduceMul, Int.reduceLT, Int.reduceNeg, Int.reduceEq, Int.reduceLE, Int.reduceAdd, Int.reduceSub, Nat.reduceEqDiff, Nat.reduceLeDiff, Nat.reduceLT, Nat.reduceAdd, reduceCtorEq, Span.enc, Span.encC_all, Span.enc_0, Span.enc_1, Span.enc_all, Span.enc_len, List.getElem?_map, Option.map_some, List.length_map, map_clC, map_nmC, ei64_0, eu8_0, eL_0, h1, h4, h5, ih, hc, g1]
        simp only [byLoGo, g1, if_true, kst]
      | true =>
        by_cases g2 : k.lo < a
        · simp (maxSteps := 4000000) only [↓r105_6, ↓r105_13,  go_sem, ↓reduceIte, Nat.reduceMul, Int.reduceLT, Int.reduceNeg, Int.reduceEq, Int.reduceLE, Int.reduceAdd, Int.reduceSub, Nat.reduceEqDiff, Nat.reduceLeDiff, Nat.reduceLT, Nat.reduceAdd, reduceCtorEq, Span.enc, Span.encC_all, Span.enc_0, Span.enc_1, Span.enc_all, Span.enc_len, List.getElem?_map, Option.map_some, List.length_map, map_clC, map_nmC, ei64_0, eu8_0, eL_0, h1, h4, h5, ih, hc, g1, g2]
          simp only [byLoGo, g1, g2, if_true, kst, Bool.true_eq_false, if_false]
        · simp (maxSteps := 4000000) only [↓r105_6, ↓r105_13,  go_sem, ↓reduceIte, Nat.reduceMul, Int.reduceLT, Int.reduceNeg, Int.reduceEq, Int.reduceLE, Int.reduceAdd, Int.reduceSub, Nat.reduceEqDiff, Nat.reduceLeDiff, Nat.reduceLT, Nat.reduceAdd, reduceCtorEq, Span.enc, Span.encC_all, Span.enc_0, Span.enc_1, Span.enc_all, Span.enc_len, List.getElem?_map, Option.map_some, List.length_map, map_clC, map_nmC, ei64_0, eu8_0, eL_0, h1, h4, h5, ih, hc, g1, g2]
          simp only [byLoGo, g1, g2, if_true, kst, Bool.true_eq_false, if_false]
    · simp (maxSteps := 4000000) only [↓r105_6, ↓r105_13,  go_sem, ↓reduceIte, Nat.reduceMul, Int.reduceLT, Int.reduceNeg, Int.reduceEq, Int.reduceLE, Int.reduceAdd, Int.reduceSub, Nat.reduceEqDiff, Nat.reduceLeDiff, Nat.reduceLT, Nat.reduceAdd, reduceCtorEq, Span.enc, Span.encC_all, Span.enc_0, Span.enc_1, Span.enc_all, Span.enc_len, List.getElem?_map, Option.map_some, List.length_map, map_clC, map_nmC, ei64_0, eu8_0, eL_0, h1, h4, h5, ih, hc, g1]
      simp only [byLoGo, g1, if_false, kst]
set_option maxHeartbeats 4000000 in
theorem l105_1 (l : List Span) (m : Int) (b0 : Box) (a : Int) (fd : Bool) (H : Heap) (hn : l.length < 2 ^ 63) : ∀ (r : List Span) (i : Nat) (b : Int) (f : Bool), l.drop i = r →
    runL tab ext k105_1 ⟨(upd (upd (upd (upd (upd (upd (upd und 10 (.I i)) 9 (.B f)) 7 (.B fd)) 6 (.c (.ptr (pid H 1) 0))) 4 (.c (.ptr (pid H 0) 0))) 1 (.I m)) 0 (VL 2 Span.enc l)), hp H [b0, ⟨true, [J a, J b]⟩]⟩ =
    some (.exit 2, ⟨(upd (upd (upd (upd und 9 (.B (byHiGo l m b f r).2)) 7 (.B fd)) 6 (.c (.ptr (pid H 1) 0))) 4 (.c (.ptr (pid H 0) 0))), hp H [b0, ⟨true, [J a, J (byHiGo l m b f r).1]⟩]⟩)
  | [], i, b, f, hs => by
    have h0 := dr_end hs
    rw [s105_1, b105_1]
    simp (maxSteps := 4000000) only [↓r105_6, ↓r105_13,  go_sem, ↓reduceIte, Nat.reduceMul, Int.reduceLT, Int.reduceNeg, Int.reduceEq, Int.reduceLE, Int.reduceAdd, Int.reduceSub, Nat.reduceEqDiff, Nat.reduceLeDiff, Nat.reduceLT, Nat.reduceAdd, reduceCtorEq, Span.enc, Span.encC_all, Span.enc_0, Span.enc_1, Span.enc_all, Span.enc_len, List.getElem?_map, Option.map_some, List.length_map, map_clC, map_nmC, ei64_0, eu8_0, eL_0, h0]
    simp only [byHiGo, kst]
  | k :: r, i, b, f, hs => by
    obtain ⟨h1, h2, h3⟩ := dr_cons hs
    have ih := fun b f => l105_1 l m b0 a fd H hn r (i + 1) b f h3
    have h4 := dr_lt h2
    have h5 := w64_inc h2 hn
    have hc := fun H x => c146 (ext := ext) (H := H) l x hn
    rw [s105_1, b105_1]
    by_cases g1 : m ≤ manyGo k.hi 0 l
    · cases f with
      | false =>
        simp (maxSteps := 4000000) only [↓r105_6, ↓r105_13,  go_sem, ↓reduceIte, Nat.reduceMul, Int.reduceLT, Int.reduceNeg, Int.reduceEq, Int.reduceLE, Int.reduceAdd, Int.reduceSub, Nat.reduceEqDiff, Nat.reduceLeDiff, Nat.reduceLT, Nat.reduceAdd, reduceCtorEq, Span.enc, Span.encC_all, Span.enc_0, Span.enc_1, Span.enc_all, Span.enc_len, List.getElem?_map, Option.map_some, List.length_map, map_clC, map_nmC, ei64_0, eu8_0, eL_0, h1, h4, h5, ih, hc, g1]
        simp only [byHiGo, g1, if_true, kst]
      | true =>
        by_cases g2 : b < k.hi
        · simp (maxSteps := 4000000) only [↓r105_6, ↓r105_13,  go_sem, ↓reduceIte, Nat.reduceMul, Int.reduceLT, Int.reduceNeg, Int.reduceEq, Int.reduceLE, Int.reduceAdd, Int.reduceSub, Nat.reduceEqDiff, Nat.reduceLeDiff, Nat.reduceLT, Nat.reduceAdd, reduceCtorEq, Span.enc, Span.encC_all, Span.enc_0, Span.enc_1, Span.enc_all, Span.enc_len, List.getElem?_map, Option.map_some, List.length_map, map_clC, map_nmC, ei64_0, eu8_0, eL_0, h1, h4, h5, ih, hc, g1, g2]
          simp only [byHiGo, g1, g2, if_true, kst, Bool.true_eq_false, if_false]
        · simp (maxSteps := 4000000) only [↓r105_6, ↓r105_13,  go_sem, ↓reduceIte, Nat.reduceMul, Int.reduceLT, Int.reduceNeg, Int.reduceEq, Int.reduceLE, Int.reduceAdd, Int.reduceSub, Nat.reduceEqDiff, Nat.reduceLeDiff, Nat.reduceLT, Nat.reduceAdd, reduceCtorEq, Span.enc, Span.encC_all, Span.enc_0, Span.enc_1, Span.enc_all, Span.enc_len, List.getElem?_map, Option.map_some, List.length_map, map_clC, map_nmC, ei64_0, eu8_0, eL_0, h1, h4, h5, ih, hc, g1, g2]
          simp only [byHiGo, g1, g2, if_true, kst, Bool.true_eq_false, if_false]
    · simp (maxSteps := 4000000) only [↓r105_6, ↓r105_13,  go_sem, ↓reduceIte, Nat.reduceMul, Int.reduceLT, Int.reduceNeg, Int.reduceEq, Int.reduceLE, Int.reduceAdd, Int.reduceSub, Nat.reduceEqDiff, Nat.reduceLeDiff, Nat.reduceLT, Nat.reduceAdd, reduceCtorEq, Span.enc, Span.encC_all, Span.enc_0, Span.enc_1, Span.enc_all, Span.enc_len, List.getElem?_map, Option.map_some, List.length_map, map_clC, map_nmC, ei64_0, eu8_0, eL_0, h1, h4, h5, ih, hc, g1]
      simp only [byHiGo, g1, if_false, kst]
def by_ (l : List Span) (m : Int) : Span × Bool := (⟨(byLoGo l m 0 false l).1, (byHiGo l m 0 false l).1⟩, if (byLoGo l m 0 false l).2 = true then (byHiGo l m 0 false l).2 else false)
set_option maxHeartbeats 4000000 in
theorem c105 {H : Heap} (l : List Span) (m : Int) (hn : l.length < 2 ^ 63) : callL tab ext 105 [VL 2 Span.enc l, .I m] H = some (.tup [.agg [J (by_ l m).1.lo, J (by_ l m).1.hi], .B (by_ l m).2], H) := by
  have hl := fun b0 b => l105_0 (ext := ext) l m b0 b H hn l 0 0 false rfl
  have hl2 := fun b0 a fd => l105_1 (ext := ext) l m b0 a fd H hn l 0 0 false rfl
  simp only [nat_0] at hl hl2
  rw [cl_105 rfl, B105]
  simp (maxSteps := 4000000) only [↓r105_6, ↓r105_13,  go_sem, ↓reduceIte, Nat.reduceMul, Int.reduceLT, Int.reduceNeg, Int.reduceEq, Int.reduceLE, Int.reduceAdd, Int.reduceSub, Nat.reduceEqDiff, Nat.reduceLeDiff, Nat.reduceLT, Nat.reduceAdd, reduceCtorEq, Span.enc, Span.encC_all, Span.enc_0, Span.enc_1, Span.enc_all, Span.enc_len, List.getElem?_map, Option.map_some, List.length_map, map_clC, map_nmC, ei64_0, eu8_0, eL_0, hl, hl2]
  simp only [by_]
  all_goals ((repeat' (first | with_reducible rfl | with_reducible contradiction | split)) <;> (first | with_reducible rfl | (simp_all; done) | (simp_all; omega) | omega))

end
end Go.Ab
namespace Go.Ab
section
variable {ext : Callee}
def cntStep (f w : Bool) (x : Int × Int) : Int × Int := if f = true then (w64 (x.1 + 1), if w = true then w64 (x.2 + 1) else x.2) else x
abbrev H56 (c : Config) (s : RScript) (H : Heap) : Heap := hp H [⟨true, (Config.enc c).map .d⟩, ⟨true, (RScript.enc s).map .d⟩]
abbrev R56 (c : Config) (s : RScript) (H : Heap) (k : Int) (x : Int × Int) : Option (Ex × St) := some (.exit 0, ⟨(upd (upd (upd (upd (upd und 8 (.I x.2)) 7 (.I x.1)) 4 (.c (.ptr (pid H 1) 0))) 3 (.c (.ptr (pid H 0) 0))) 2 (.I k)), H56 c s H⟩)
set_option maxHeartbeats 4000000 in
theorem l56_3 (c : Config) (s : RScript) (H : Heap) (k : Int) (a b : Int) : runL tab ext k56_0 ⟨(upd (upd (upd (upd (upd (upd und 9 (.I 3)) 8 (.I b)) 7 (.I a)) 4 (.c (.ptr (pid H 1) 0))) 3 (.c (.ptr (pid H 0) 0))) 2 (.I k)), H56 c s H⟩ = R56 c s H k (a, b) := by
  rw [s56_0, b56_0]
  simp (maxSteps := 4000000) only [↓r56_14,  go_sem, ↓reduceIte, Nat.reduceMul, Int.reduceLT, Int.reduceNeg, Int.reduceEq, Int.reduceLE, Int.reduceAdd, Int.reduceSub, Nat.reduceEqDiff, Nat.reduceLeDiff, Nat.reduceLT, Nat.reduceAdd, reduceCtorEq, List.getElem?_map, Option.map_some, List.length_map, map_clC, map_nmC, ei64_0, eu8_0, eL_0]
  simp only [kst]
set_option maxHeartbeats 4000000 in
theorem l56_s (c : Config) (s : RScript) (H : Heap) (k : Int) (i : Nat) (hi : i = 0 ∨ i = 1 ∨ i = 2) (f wr : Bool) (F : Int × Int → Int × Int)
    (hf : ∀ H', callL tab ext 30 [.agg ((RScript.enc s).map .d), .I i, .I k] (hp H H') = some (.B f, hp H H'))
    (hw : ∀ H', callL tab ext 31 [.agg ((Config.enc c).map .d), .agg ((RScript.enc s).map .d), .I i, .I k] (hp H H') = some (.B wr, hp H H'))
    (nx : ∀ a b, runL tab ext k56_0 ⟨(upd (upd (upd (upd (upd (upd und 9 (.I ((i + 1 : Nat) : Int))) 8 (.I b)) 7 (.I a)) 4 (.c (.ptr (pid H 1) 0))) 3 (.c (.ptr (pid H 0) 0))) 2 (.I k)), H56 c s H⟩ = R56 c s H k (F (a, b))) :
    ∀ a b, runL tab ext k56_0 ⟨(upd (upd (upd (upd (upd (upd und 9 (.I i)) 8 (.I b)) 7 (.I a)) 4 (.c (.ptr (pid H 1) 0))) 3 (.c (.ptr (pid H 0) 0))) 2 (.I k)), H56 c s H⟩ = R56 c s H k (F (cntStep f wr (a, b))) := by
  intro a b
  rw [s56_0, b56_0]
  cases f with
  | false =>
    rcases hi with rfl | rfl | rfl <;> simp only [nat_0, nat_1, nat_2, nat_3, Nat.zero_add, Nat.reduceAdd] at hf nx ⊢ <;>
      simp (maxSteps := 4000000) only [↓r56_14,  go_sem, ↓reduceIte, Nat.reduceMul, Int.reduceLT, Int.reduceNeg, Int.reduceEq, Int.reduceLE, Int.reduceAdd, Int.reduceSub, Nat.reduceEqDiff, Nat.reduceLeDiff, Nat.reduceLT, Nat.reduceAdd, reduceCtorEq, Config.encC_all, Config.enc_0, Config.enc_1, Config.enc_10, Config.enc_11, Config.enc_12, Config.enc_13, Config.enc_2, Config.enc_3, Config.enc_4, Config.enc_5, Config.enc_6, Config.enc_7, Config.enc_8, Config.enc_9, Config.enc_all, Config.enc_len, RScript.encC_all, RScript.enc_0, RScript.enc_1, RScript.enc_2, RScript.enc_3, RScript.enc_4, RScript.enc_5, RScript.enc_6, RScript.enc_7, RScript.enc_8, RScript.enc_all, RScript.enc_len, RScript.subC_3_2, RScript.subC_5_2, RScript.sub_3_2, RScript.sub_5_2, List.getElem?_map, Option.map_some, List.length_map, map_clC, map_nmC, ei64_0, eu8_0, eL_0, hf, nx] <;>
      simp only [kst, cntStep, Bool.false_eq_true, if_false]
  | true =>
    rcases hi with rfl | rfl | rfl <;> simp only [nat_0, nat_1, nat_2, nat_3, Nat.zero_add, Nat.reduceAdd] at hf hw nx ⊢ <;>
      cases wr <;>
      simp (maxSteps := 4000000) only [↓r56_14,  go_sem, ↓reduceIte, Nat.reduceMul, Int.reduceLT, Int.reduceNeg, Int.reduceEq, Int.reduceLE, Int.reduceAdd, Int.reduceSub, Nat.reduceEqDiff, Nat.reduceLeDiff, Nat.reduceLT, Nat.reduceAdd, reduceCtorEq, Config.encC_all, Config.enc_0, Config.enc_1, Config.enc_10, Config.enc_11, Config.enc_12, Config.enc_13, Config.enc_2, Config.enc_3, Config.enc_4, Config.enc_5, Config.enc_6, Config.enc_7, Config.enc_8, Config.enc_9, Config.enc_all, Config.enc_len, RScript.encC_all, RScript.enc_0, RScript.enc_1, RScript.enc_2, RScript.enc_3, RScript.enc_4, RScript.enc_5, RScript.enc_6, RScript.enc_7, RScript.enc_8, RScript.enc_all, RScript.enc_len, RScript.subC_3_2, RScript.subC_5_2, RScript.sub_3_2, RScript.sub_5_2, List.getElem?_map, Option.map_some, List.length_map, map_clC, map_nmC, ei64_0, eu8_0, eL_0, hf, hw, nx] <;>
      simp only [kst, cntStep, Bool.false_eq_true, if_false, if_true]
theorem chop_23 {a b c d e f : D} : chop 2 3 [a, b, c, d, e, f] = [[a, b], [c, d], [e, f]] := rfl
def refCnt (c : Config) (y : RTick) (q : Option RTick) : Int × Int :=
  cntStep (fitR y q 2) (wrongR c y 2) (cntStep (fitR y q 1) (wrongR c y 1) (cntStep (fitR y q 0) (wrongR c y 0) (0, 0)))
def refSays3 (c : Config) (s : RScript) (k : Nat) (y : RTick) : List Span := [⟨(rSaysT c s 0 k).1, (rSaysT c s 0 k).2⟩, ⟨(rSaysT c s 1 k).1, (rSaysT c s 1 k).2⟩, ⟨(refRadar c (w64 (y.v + y.rad))).1, (refRadar c (w64 (y.v + y.rad))).2⟩]
def refSens (c : Config) (s : RScript) (k : Nat) : Bool := match s.ticks[k]? with
  | none => false
  | some y => if (refCnt c y (prevOf s.ticks k)).2 = 0 then true else if (if 1 < (refCnt c y (prevOf s.ticks k)).2 then true else decide ((refCnt c y (prevOf s.ticks k)).1 < 3)) = true then false else !(by_ (refSays3 c s k y) 3).2
set_option maxHeartbeats 8000000 in
theorem c56 {H : Heap} (c : Config) (s : RScript) (k : Nat) (hk : k < s.ticks.length) (hn : s.ticks.length ≤ 4096) (h0 : ¬ s.circ 0 = 0) (h1 : ¬ s.circ 1 = 0) (hp' : ¬ c.pulses = 0) : callL tab ext 56 [.agg ((Config.enc c).map .d), .agg ((RScript.enc s).map .d), .I k] H = some (.B (refSens c s k), H) := by
  obtain ⟨y, hy⟩ := get_ex hk
  have hf := fun i hi H' => c30 (ext := ext) (H := hp H H') s i k y (prevOf s.ticks k) hi hy rfl hn
  have hw := fun i hi H' => c31 (ext := ext) (H := hp H H') c s i k y hi hy
  have hs2 := fun H => c32_2 (ext := ext) (H := H) c s k y hy
  have hs0 := fun H => c32_t (ext := ext) (H := H) c s 0 k (Or.inl rfl) hk hn (by simpa using h0) (by simpa using hp')
  have hs1 := fun H => c32_t (ext := ext) (H := H) c s 1 k (Or.inr rfl) hk hn (by simpa using h1) (by simpa using hp')
  have n2 := l56_s (ext := ext) c s H k 2 (by simp) _ _ (fun x => x) (hf 2 (by simp)) (hw 2 (by simp)) (fun a b => l56_3 c s H k a b)
  have n1 := l56_s (ext := ext) c s H k 1 (by simp) _ _ (fun x => cntStep (fitR y (prevOf s.ticks k) 2) (wrongR c y 2) x) (hf 1 (by simp)) (hw 1 (by simp)) n2
  have n0 := l56_s (ext := ext) c s H k 0 (by simp) _ _ (fun x => cntStep (fitR y (prevOf s.ticks k) 2) (wrongR c y 2) (cntStep (fitR y (prevOf s.ticks k) 1) (wrongR c y 1) x)) (hf 0 (by simp)) (hw 0 (by simp)) n1 0 0
  have n0' : runL tab ext k56_0 ⟨(upd (upd (upd (upd (upd (upd und 9 (.I 0)) 8 (.I 0)) 7 (.I 0)) 4 (.c (.ptr (pid H 1) 0))) 3 (.c (.ptr (pid H 0) 0))) 2 (.I k)), H56 c s H⟩ = R56 c s H k (refCnt c y (prevOf s.ticks k)) := n0
  have hb := fun H => c105 (ext := ext) (H := H) (refSays3 c s k y) 3 (by simp [refSays3])
  simp only [refSens, hy]
  generalize refCnt c y (prevOf s.ticks k) = x at *
  have hb' : ∀ H, callL tab ext 105 [.c (.d (.l 2 [[.i .i64 (rSaysT c s 0 k).1, .i .i64 (rSaysT c s 0 k).2], [.i .i64 (rSaysT c s 1 k).1, .i .i64 (rSaysT c s 1 k).2], [.i .i64 (refRadar c (w64 (y.v + y.rad))).1, .i .i64 (refRadar c (w64 (y.v + y.rad))).2]])), .I 3] H = some (.tup [.agg [J (by_ (refSays3 c s k y) 3).1.lo, J (by_ (refSays3 c s k y) 3).1.hi], .B (by_ (refSays3 c s k y) 3).2], H) := hb
  generalize by_ (refSays3 c s k y) 3 = z at *
  simp only [nat_0, nat_1] at hs0 hs1
  rw [cl_56 rfl, B56]
  simp (maxSteps := 4000000) only [↓r56_14,  go_sem, ↓reduceIte, Nat.reduceMul, Int.reduceLT, Int.reduceNeg, Int.reduceEq, Int.reduceLE, Int.reduceAdd, Int.reduceSub, Nat.reduceEqDiff, Nat.reduceLeDiff, Nat.reduceLT, Nat.reduceAdd, reduceCtorEq, Config.encC_all, Config.enc_0, Config.enc_1, Config.enc_10, Config.enc_11, Config.enc_12, Config.enc_13, Config.enc_2, Config.enc_3, Config.enc_4, Config.enc_5, Config.enc_6, Config.enc_7, Config.enc_8, Config.enc_9, Config.enc_all, Config.enc_len, RScript.encC_all, RScript.enc_0, RScript.enc_1, RScript.enc_2, RScript.enc_3, RScript.enc_4, RScript.enc_5, RScript.enc_6, RScript.enc_7, RScript.enc_8, RScript.enc_all, RScript.enc_len, RScript.subC_3_2, RScript.subC_5_2, RScript.sub_3_2, RScript.sub_5_2, Span.enc, Span.encC_all, Span.enc_0, Span.enc_1, Span.enc_all, Span.enc_len, List.getElem?_map, Option.map_some, List.length_map, map_clC, map_nmC, ei64_0, eu8_0, eL_0, n0', hs0, hs1, hs2, hb', chop_23]
  all_goals ((repeat' (first | with_reducible rfl | with_reducible contradiction | split)) <;> (first | with_reducible rfl | (simp_all; done) | (simp_all; omega) | omega))

end
end Go.Ab
