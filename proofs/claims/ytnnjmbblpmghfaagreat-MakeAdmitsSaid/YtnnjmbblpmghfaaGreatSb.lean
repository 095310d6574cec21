/-
  What functions of the program come to.
  Conditions: none.
-/
import Derived.Test.YtnnjmbblpmghfaaGreatSa
import Derived.Test.YtnnjmbblpmghfaaGreatW2
set_option linter.unusedSimpArgs false
set_option linter.unusedVariables false
namespace Go.Ab
section
variable {ext : Callee}
def nextBad (m : Nat) (prev : Option Int) (x : Int) : Bool :=
  if x < 0 then true else if (m : Int) ≤ x then true else (match prev with
    | some z => decide (x ≤ z)
    | none => false)
def nextGo (m : Nat) : Option Int → List Int → Bool
  | _, [] => true
  | prev, k :: r => if nextBad m prev k = true then false else nextGo m (some k) r
set_option maxHeartbeats 4000000 in
theorem l141_0 (t : Track) (s : Segment) (H : Heap) (hn : s.next.length < 2 ^ 63) : ∀ (r : List Int) (i : Nat) (q : Option Int), s.next.drop i = r → q = prevOf s.next i →
    runL tab ext k141_0 ⟨upd (upd (upd (upd (upd und 32 (.I i)) 31 (.I s.next.length)) 30 (VL 1 ei64 s.next)) 3 (.c (.ptr (pid H 1) 0))) 2 (.c (.ptr (pid H 0) 0)), hp H [⟨true, (Track.enc t).map .d⟩, ⟨true, (Segment.enc s).map .d⟩]⟩ =
    if nextGo t.segments.length q r = true then some (.exit 0, ⟨und, hp H [⟨true, (Track.enc t).map .d⟩, ⟨true, (Segment.enc s).map .d⟩]⟩) else some (.ret, ⟨upd und 4 (.B false), hp H [⟨true, (Track.enc t).map .d⟩, ⟨true, (Segment.enc s).map .d⟩]⟩)
  | [], i, q, hs, hq => by
    have h0 := dr_end hs
    rw [s141_0, b141_0]
    simp (maxSteps := 4000000) only [ go_sem, ↓reduceIte, Nat.reduceMul, Int.reduceLT, Int.reduceNeg, Int.reduceEq, Int.reduceLE, Int.reduceAdd, Int.reduceSub, Nat.reduceEqDiff, Nat.reduceLeDiff, Nat.reduceLT, Nat.reduceAdd, reduceCtorEq, Track.encC_all, Track.enc_0, Track.enc_1, Track.enc_all, Track.enc_len, Segment.encC_all, Segment.enc_0, Segment.enc_1, Segment.enc_2, Segment.enc_all, Segment.enc_len, List.getElem?_map, Option.map_some, List.length_map, map_clC, map_nmC, ei64_0, eu8_0, eL_0, h0]
    simp only [nextGo, kst, if_true]
  | k :: r, i, q, hs, hq => by
    obtain ⟨h1, h2, h3⟩ := dr_cons hs
    have ih := l141_0 t s H hn r (i + 1) (some k) h3 h1.symm
    subst hq
    have h4 := dr_lt h2
    have h5 := w64_inc h2 hn
    rw [s141_0, b141_0]
    cases i with
    | zero =>
      simp only [nat_0, Nat.zero_add, nat_1] at h4 h5 ih ⊢
      simp (maxSteps := 4000000) only [ go_sem, ↓reduceIte, Nat.reduceMul, Int.reduceLT, Int.reduceNeg, Int.reduceEq, Int.reduceLE, Int.reduceAdd, Int.reduceSub, Nat.reduceEqDiff, Nat.reduceLeDiff, Nat.reduceLT, Nat.reduceAdd, reduceCtorEq, Track.encC_all, Track.enc_0, Track.enc_1, Track.enc_all, Track.enc_len, Segment.encC_all, Segment.enc_0, Segment.enc_1, Segment.enc_2, Segment.enc_all, Segment.enc_len, List.getElem?_map, Option.map_some, List.length_map, map_clC, map_nmC, ei64_0, eu8_0, eL_0, h1, h4, h5, ih]
      simp only [nextGo, nextBad, prevOf, h1, kst]
      exact fin2 _ _ _ _
    | succ j =>
      have h6 := w64_dec h2 hn
      have h7 : ∃ z, s.next[j]? = some z := ⟨s.next[j]'(by omega), List.getElem?_eq_getElem _⟩
      obtain ⟨z, h7⟩ := h7
      simp (maxSteps := 4000000) only [ go_sem, ↓reduceIte, Nat.reduceMul, Int.reduceLT, Int.reduceNeg, Int.reduceEq, Int.reduceLE, Int.reduceAdd, Int.reduceSub, Nat.reduceEqDiff, Nat.reduceLeDiff, Nat.reduceLT, Nat.reduceAdd, reduceCtorEq, Track.encC_all, Track.enc_0, Track.enc_1, Track.enc_all, Track.enc_len, Segment.encC_all, Segment.enc_0, Segment.enc_1, Segment.enc_2, Segment.enc_all, Segment.enc_len, List.getElem?_map, Option.map_some, List.length_map, map_clC, map_nmC, ei64_0, eu8_0, eL_0, h1, h4, h5, ih, h6, h7, pos_succ]
      simp only [nextGo, nextBad, prevOf, h7, h1, kst]
      exact fin2 _ _ _ _
def segOk (m : Nat) (s : Segment) : Bool :=
  if s.length < 1 then false else if 1099511627776 < s.length then false else if ¬ gradeCheck s.pieces s.length = 0 then false else if 2 < (s.next.length : Int) then false else nextGo m none s.next
set_option maxHeartbeats 4000000 in
theorem c141 {H : Heap} (t : Track) (s : Segment) (hn : s.next.length < 2 ^ 63) (hp' : s.pieces.length < 2 ^ 63) : callL tab ext 141 [.agg ((Track.enc t).map .d), .agg ((Segment.enc s).map .d)] H = some (.B (segOk t.segments.length s), H) := by
  have hl := l141_0 (ext := ext) t s H hn s.next 0 none rfl rfl
  simp only [nat_0] at hl
  have hg := fun (H : Heap) => c213 (ext := ext) (H := H) s.pieces s.length hp'
  rw [cl_141 rfl, B141]
  simp (maxSteps := 4000000) only [go_sem, ↓reduceIte, Nat.reduceMul, Int.reduceLT, Int.reduceNeg, Int.reduceEq, Int.reduceLE, Int.reduceAdd, Int.reduceSub, Nat.reduceEqDiff, Nat.reduceLeDiff, Nat.reduceLT, Nat.reduceAdd, reduceCtorEq, Track.encC_all, Track.enc_0, Track.enc_1, Track.enc_all, Track.enc_len, Segment.encC_all, Segment.enc_0, Segment.enc_1, Segment.enc_2, Segment.enc_all, Segment.enc_len, List.getElem?_map, Option.map_some, List.length_map, map_clC, map_nmC, ei64_0, eu8_0, eL_0, hl, hg]
  simp only [segOk]
  repeat' (first | with_reducible rfl | split)
  all_goals (first | with_reducible rfl | (simp_all; done))

end
end Go.Ab
namespace Go.Ab
section
variable {ext : Callee}
def grpBad (n : Nat) (prev : Option Group) (g : Group) : Bool :=
  if g.id < 1 then true else if 65535 < g.id then true else if (match prev with
    | some z => decide (g.id ≤ z.id)
    | none => false) = true then true else if g.segment < 0 then true else decide ((n : Int) ≤ g.segment)
def grpIn (s : Segment) (g : Group) : Bool :=
  if 0 ≤ g.offset then (if g.offset ≤ s.length then (if 0 ≤ g.acc then (if g.acc ≤ 1048576 then (if 0 ≤ g.slack then decide (g.slack ≤ 16777216) else false) else false) else false) else false) else false
def grpOk (t : Track) (prev : Option Group) (g : Group) : Bool :=
  if grpBad t.segments.length prev g = true then false else match t.segments[g.segment.toNat]? with
    | some s => grpIn s g
    | none => false
theorem nat_neg (n : Nat) : ((n : Int) < 0) = False := by simp
theorem len_le {n m : Nat} (h : n < m) : ((m : Int) ≤ (n : Int)) = False := by simp; exact h
theorem seg_cases (m : Nat) (x : Int) : (x < 0) ∨ (¬ x < 0 ∧ (m : Int) ≤ x) ∨ ∃ n : Nat, x = n ∧ n < m := by
  by_cases h : x < 0
  · exact Or.inl h
  · by_cases h2 : (m : Int) ≤ x
    · exact Or.inr (Or.inl ⟨h, h2⟩)
    · exact Or.inr (Or.inr ⟨x.toNat, by omega, by omega⟩)
theorem get_ex {α : Type} {l : List α} {n : Nat} (h : n < l.length) : ∃ z, l[n]? = some z := ⟨l[n], List.getElem?_eq_getElem h⟩
set_option maxHeartbeats 4000000 in
theorem c142 {H : Heap} (t : Track) (i : Nat) (id seg off acc slack : Int) (q : Option Group) (hq : q = prevOf t.groups i) (hi : i < t.groups.length) (hn : t.groups.length < 2 ^ 63) :
    callL tab ext 142 [.agg ((Track.enc t).map .d), .I i, .agg [J id, J seg, J off, J acc, J slack]] H = some (.B (grpOk t q ⟨id, seg, off, acc, slack⟩), H) := by
  subst hq
  rw [cl_142 rfl, B142]
  have hc : i = 0 ∨ ∃ j z, i = j + 1 ∧ t.groups[j]? = some z ∧ w64 ((((j + 1 : Nat)) : Int) - 1) = (j : Int) := by
    cases i with
    | zero => exact Or.inl rfl
    | succ j =>
      obtain ⟨z, hz⟩ := get_ex (l := t.groups) (n := j) (by omega)
      exact Or.inr ⟨j, z, rfl, hz, w64_dec hi hn⟩
  rcases hc with rfl | ⟨j, z, rfl, hz, hw⟩
  · rcases seg_cases t.segments.length seg with h | ⟨h, h'⟩ | ⟨n, rfl, h⟩
    · simp (maxSteps := 4000000) only [↓r142_1, ↓r142_3,  go_sem, ↓reduceIte, Nat.reduceMul, Int.reduceLT, Int.reduceNeg, Int.reduceEq, Int.reduceLE, Int.reduceAdd, Int.reduceSub, Nat.reduceEqDiff, Nat.reduceLeDiff, Nat.reduceLT, Nat.reduceAdd, reduceCtorEq, Track.encC_all, Track.enc_0, Track.enc_1, Track.enc_all, Track.enc_len, Group.enc, Group.encC_all, Group.enc_0, Group.enc_1, Group.enc_2, Group.enc_3, Group.enc_4, Group.enc_all, Group.enc_len, List.getElem?_map, Option.map_some, List.length_map, map_clC, map_nmC, ei64_0, eu8_0, eL_0, h, nat_0]
      simp only [grpOk, grpBad, prevOf, h, if_true, ite_true]
      all_goals ((repeat' (first | with_reducible rfl | with_reducible contradiction | split)) <;> (first | with_reducible rfl | (simp_all; done) | (simp_all; omega) | omega))
    · simp (maxSteps := 4000000) only [↓r142_1, ↓r142_3,  go_sem, ↓reduceIte, Nat.reduceMul, Int.reduceLT, Int.reduceNeg, Int.reduceEq, Int.reduceLE, Int.reduceAdd, Int.reduceSub, Nat.reduceEqDiff, Nat.reduceLeDiff, Nat.reduceLT, Nat.reduceAdd, reduceCtorEq, Track.encC_all, Track.enc_0, Track.enc_1, Track.enc_all, Track.enc_len, Group.enc, Group.encC_all, Group.enc_0, Group.enc_1, Group.enc_2, Group.enc_3, Group.enc_4, Group.enc_all, Group.enc_len, List.getElem?_map, Option.map_some, List.length_map, map_clC, map_nmC, ei64_0, eu8_0, eL_0, h, h', nat_0]
      simp only [grpOk, grpBad, prevOf, h, h', if_true, ite_true]
      all_goals ((repeat' (first | with_reducible rfl | with_reducible contradiction | split)) <;> (first | with_reducible rfl | (simp_all; done) | (simp_all; omega) | omega))
    · obtain ⟨s, hs⟩ := get_ex h
      simp (maxSteps := 4000000) only [↓r142_1, ↓r142_3,  go_sem, ↓reduceIte, Nat.reduceMul, Int.reduceLT, Int.reduceNeg, Int.reduceEq, Int.reduceLE, Int.reduceAdd, Int.reduceSub, Nat.reduceEqDiff, Nat.reduceLeDiff, Nat.reduceLT, Nat.reduceAdd, reduceCtorEq, Track.encC_all, Track.enc_0, Track.enc_1, Track.enc_all, Track.enc_len, Segment.encC_all, Segment.enc_0, Segment.enc_1, Segment.enc_2, Segment.enc_all, Segment.enc_len, Group.enc, Group.encC_all, Group.enc_0, Group.enc_1, Group.enc_2, Group.enc_3, Group.enc_4, Group.enc_all, Group.enc_len, List.getElem?_map, Option.map_some, List.length_map, map_clC, map_nmC, ei64_0, eu8_0, eL_0, nat_neg, len_le h, hs, nat_0]
      simp only [grpOk, grpBad, grpIn, prevOf, nat_neg, len_le h, Int.toNat_natCast, hs]
      all_goals ((repeat' (first | with_reducible rfl | with_reducible contradiction | split)) <;> (first | with_reducible rfl | (simp_all; done) | (simp_all; omega) | omega))
  · rcases seg_cases t.segments.length seg with h | ⟨h, h'⟩ | ⟨n, rfl, h⟩
    · simp (maxSteps := 4000000) only [↓r142_1, ↓r142_3,  go_sem, ↓reduceIte, Nat.reduceMul, Int.reduceLT, Int.reduceNeg, Int.reduceEq, Int.reduceLE, Int.reduceAdd, Int.reduceSub, Nat.reduceEqDiff, Nat.reduceLeDiff, Nat.reduceLT, Nat.reduceAdd, reduceCtorEq, Track.encC_all, Track.enc_0, Track.enc_1, Track.enc_all, Track.enc_len, Group.enc, Group.encC_all, Group.enc_0, Group.enc_1, Group.enc_2, Group.enc_3, Group.enc_4, Group.enc_all, Group.enc_len, List.getElem?_map, Option.map_some, List.length_map, map_clC, map_nmC, ei64_0, eu8_0, eL_0, h, hz, hw, pos_succ]
      simp only [grpOk, grpBad, prevOf, h, hz]
      all_goals ((repeat' (first | with_reducible rfl | with_reducible contradiction | split)) <;> (first | with_reducible rfl | (simp_all; done) | (simp_all; omega) | omega))
    · simp (maxSteps := 4000000) only [↓r142_1, ↓r142_3,  go_sem, ↓reduceIte, Nat.reduceMul, Int.reduceLT, Int.reduceNeg, Int.reduceEq, Int.reduceLE, Int.reduceAdd, Int.reduceSub, Nat.reduceEqDiff, Nat.reduceLeDiff, Nat.reduceLT, Nat.reduceAdd, reduceCtorEq, Track.encC_all, Track.enc_0, Track.enc_1, Track.enc_all, Track.enc_len, Group.enc, Group.encC_all, Group.enc_0, Group.enc_1, Group.enc_2, Group.enc_3, Group.enc_4, Group.enc_all, Group.enc_len, List.getElem?_map, Option.map_some, List.length_map, map_clC, map_nmC, ei64_0, eu8_0, eL_0, h, h', hz, hw, pos_succ]
      simp only [grpOk, grpBad, prevOf, h, h', hz]
      all_goals ((repeat' (first | with_reducible rfl | with_reducible contradiction | split)) <;> (first | with_reducible rfl | (simp_all; done) | (simp_all; omega) | omega))
    · obtain ⟨s, hs⟩ := get_ex h
      simp (maxSteps := 4000000) only [↓r142_1, ↓r142_3,  go_sem, ↓reduceIte, Nat.reduceMul, Int.reduceLT, Int.reduceNeg, Int.reduceEq, Int.reduceLE, Int.reduceAdd, Int.reduceSub, Nat.reduceEqDiff, Nat.reduceLeDiff, Nat.reduceLT, Nat.reduceAdd, reduceCtorEq, Track.encC_all, Track.enc_0, Track.enc_1, Track.enc_all, Track.enc_len, Segment.encC_all, Segment.enc_0, Segment.enc_1, Segment.enc_2, Segment.enc_all, Segment.enc_len, Group.enc, Group.encC_all, Group.enc_0, Group.enc_1, Group.enc_2, Group.enc_3, Group.enc_4, Group.enc_all, Group.enc_len, List.getElem?_map, Option.map_some, List.length_map, map_clC, map_nmC, ei64_0, eu8_0, eL_0, nat_neg, len_le h, hs, hz, hw, pos_succ]
      simp only [grpOk, grpBad, grpIn, prevOf, nat_neg, len_le h, Int.toNat_natCast, hs, hz]
      all_goals ((repeat' (first | with_reducible rfl | with_reducible contradiction | split)) <;> (first | with_reducible rfl | (simp_all; done) | (simp_all; omega) | omega))

end
end Go.Ab
namespace Go.Ab
section
variable {ext : Callee}
structure Track.Sz (t : Track) : Prop where
  segs : t.segments.length < 2 ^ 63
  grps : t.groups.length < 2 ^ 63
  each : ∀ s ∈ t.segments, s.next.length < 2 ^ 63 ∧ s.pieces.length < 2 ^ 63
def segFirst (m : Nat) : Nat → List Segment → Option Nat
  | _, [] => none
  | i, k :: r => if segOk m k = true then segFirst m (i + 1) r else some i
def grpFirst (t : Track) : Nat → Option Group → List Group → Option Nat
  | _, _, [] => none
  | i, q, k :: r => if grpOk t q k = true then grpFirst t (i + 1) (some k) r else some i
set_option maxHeartbeats 4000000 in
theorem l95_0 (t : Track) (H : Heap) (hz : t.Sz) : ∀ (r : List Segment) (i : Nat), t.segments.drop i = r →
    runL tab ext k95_0 ⟨(upd (upd (upd (upd und 27 (.I i)) 26 (.I t.segments.length)) 25 (VL 3 Segment.enc t.segments)) 1 (.c (.ptr (pid H 0) 0))), hp H [⟨true, (Track.enc t).map .d⟩]⟩ =
    if (segFirst t.segments.length i r).isNone = true then some (.exit 0, ⟨(upd und 1 (.c (.ptr (pid H 0) 0))), hp H [⟨true, (Track.enc t).map .d⟩]⟩) else some (.ret, ⟨(upd (upd und 3 (.I ((segFirst t.segments.length i r).getD 0 : Nat))) 2 (.I 11)), hp H [⟨true, (Track.enc t).map .d⟩]⟩)
  | [], i, hs => by
    have h0 := dr_end hs
    rw [s95_0, b95_0]
    simp (maxSteps := 4000000) only [ go_sem, ↓reduceIte, Nat.reduceMul, Int.reduceLT, Int.reduceNeg, Int.reduceEq, Int.reduceLE, Int.reduceAdd, Int.reduceSub, Nat.reduceEqDiff, Nat.reduceLeDiff, Nat.reduceLT, Nat.reduceAdd, reduceCtorEq, Track.encC_all, Track.enc_0, Track.enc_1, Track.enc_all, Track.enc_len, Segment.enc, Segment.encC_all, Segment.enc_0, Segment.enc_1, Segment.enc_2, Segment.enc_all, Segment.enc_len, List.getElem?_map, Option.map_some, List.length_map, map_clC, map_nmC, ei64_0, eu8_0, eL_0, h0]
    simp only [segFirst, kst, Option.isNone_none, if_true]
  | k :: r, i, hs => by
    obtain ⟨h1, h2, h3⟩ := dr_cons hs
    have ih := l95_0 t H hz r (i + 1) h3
    have h4 := dr_lt h2
    have h5 := w64_inc h2 hz.segs
    obtain ⟨z1, z2⟩ := hz.each k (List.mem_of_getElem? h1)
    have hg := fun H => c141 (ext := ext) (H := H) t k z1 z2
    simp only [Segment.enc, List.map_cons, List.map_nil] at hg
    rw [s95_0, b95_0]
    simp (maxSteps := 4000000) only [ go_sem, ↓reduceIte, Nat.reduceMul, Int.reduceLT, Int.reduceNeg, Int.reduceEq, Int.reduceLE, Int.reduceAdd, Int.reduceSub, Nat.reduceEqDiff, Nat.reduceLeDiff, Nat.reduceLT, Nat.reduceAdd, reduceCtorEq, Track.encC_all, Track.enc_0, Track.enc_1, Track.enc_all, Track.enc_len, Segment.enc, Segment.encC_all, Segment.enc_0, Segment.enc_1, Segment.enc_2, Segment.enc_all, Segment.enc_len, List.getElem?_map, Option.map_some, List.length_map, map_clC, map_nmC, ei64_0, eu8_0, eL_0, h1, h4, h5, ih, hg]
    simp only [segFirst, kst]
    by_cases h : segOk t.segments.length k = true <;> simp [h]
set_option maxHeartbeats 4000000 in
theorem l95_1 (t : Track) (H : Heap) (hz : t.Sz) : ∀ (r : List Group) (i : Nat) (q : Option Group), t.groups.drop i = r → q = prevOf t.groups i →
    runL tab ext k95_1 ⟨(upd (upd (upd (upd und 41 (.I i)) 40 (.I t.groups.length)) 39 (VL 5 Group.enc t.groups)) 1 (.c (.ptr (pid H 0) 0))), hp H [⟨true, (Track.enc t).map .d⟩]⟩ =
    if (grpFirst t i q r).isNone = true then some (.exit 2, ⟨und, hp H [⟨true, (Track.enc t).map .d⟩]⟩) else some (.ret, ⟨(upd (upd und 3 (.I ((grpFirst t i q r).getD 0 : Nat))) 2 (.I 16)), hp H [⟨true, (Track.enc t).map .d⟩]⟩)
  | [], i, q, hs, hq => by
    have h0 := dr_end hs
    rw [s95_1, b95_1]
    simp (maxSteps := 4000000) only [ go_sem, ↓reduceIte, Nat.reduceMul, Int.reduceLT, Int.reduceNeg, Int.reduceEq, Int.reduceLE, Int.reduceAdd, Int.reduceSub, Nat.reduceEqDiff, Nat.reduceLeDiff, Nat.reduceLT, Nat.reduceAdd, reduceCtorEq, Track.encC_all, Track.enc_0, Track.enc_1, Track.enc_all, Track.enc_len, Group.enc, Group.encC_all, Group.enc_0, Group.enc_1, Group.enc_2, Group.enc_3, Group.enc_4, Group.enc_all, Group.enc_len, List.getElem?_map, Option.map_some, List.length_map, map_clC, map_nmC, ei64_0, eu8_0, eL_0, h0]
    simp only [grpFirst, kst, Option.isNone_none, if_true]
  | k :: r, i, q, hs, hq => by
    obtain ⟨h1, h2, h3⟩ := dr_cons hs
    have ih := l95_1 t H hz r (i + 1) (some k) h3 h1.symm
    have h4 := dr_lt h2
    have h5 := w64_inc h2 hz.grps
    have hg := fun H => c142 (ext := ext) (H := H) t i k.id k.segment k.offset k.acc k.slack q hq h2 hz.grps
    rw [s95_1, b95_1]
    simp (maxSteps := 4000000) only [ go_sem, ↓reduceIte, Nat.reduceMul, Int.reduceLT, Int.reduceNeg, Int.reduceEq, Int.reduceLE, Int.reduceAdd, Int.reduceSub, Nat.reduceEqDiff, Nat.reduceLeDiff, Nat.reduceLT, Nat.reduceAdd, reduceCtorEq, Track.encC_all, Track.enc_0, Track.enc_1, Track.enc_all, Track.enc_len, Group.enc, Group.encC_all, Group.enc_0, Group.enc_1, Group.enc_2, Group.enc_3, Group.enc_4, Group.enc_all, Group.enc_len, List.getElem?_map, Option.map_some, List.length_map, map_clC, map_nmC, ei64_0, eu8_0, eL_0, h1, h4, h5, ih, hg]
    simp only [grpFirst, kst]
    by_cases h : grpOk t q k = true <;> simp [h]
def trkCheck (t : Track) : Int × Int :=
  if t.segments.length = 0 then (13, 0) else if 200 < (t.segments.length : Int) then (13, 0) else if 400 < (t.groups.length : Int) then (13, 0) else
  if (segFirst t.segments.length 0 t.segments).isNone = true then (if (grpFirst t 0 none t.groups).isNone = true then (0, 0) else (16, ((grpFirst t 0 none t.groups).getD 0 : Nat))) else (11, ((segFirst t.segments.length 0 t.segments).getD 0 : Nat))
theorem nat_eq0 (n : Nat) : ((n : Int) = 0) = (n = 0) := by simp
set_option maxHeartbeats 4000000 in
theorem c95 {H : Heap} (t : Track) (hz : t.Sz) : callL tab ext 95 [.agg ((Track.enc t).map .d)] H = some (.tup [.I (trkCheck t).1, .I (trkCheck t).2], H) := by
  have hl := l95_0 (ext := ext) t H hz t.segments 0 rfl
  have hl2 := l95_1 (ext := ext) t H hz t.groups 0 none rfl rfl
  simp only [nat_0] at hl hl2
  rw [cl_95 rfl, B95]
  simp (maxSteps := 4000000) only [go_sem, ↓reduceIte, Nat.reduceMul, Int.reduceLT, Int.reduceNeg, Int.reduceEq, Int.reduceLE, Int.reduceAdd, Int.reduceSub, Nat.reduceEqDiff, Nat.reduceLeDiff, Nat.reduceLT, Nat.reduceAdd, reduceCtorEq, Track.encC_all, Track.enc_0, Track.enc_1, Track.enc_all, Track.enc_len, List.getElem?_map, Option.map_some, List.length_map, map_clC, map_nmC, ei64_0, eu8_0, eL_0, hl, hl2, nat_eq0]
  simp only [trkCheck]
  all_goals ((repeat' (first | with_reducible rfl | with_reducible contradiction | split)) <;> (first | with_reducible rfl | (simp_all; done) | (simp_all; omega) | omega))
def idxGo (v : Int) : Nat → List Int → Int
  | _, [] => -1
  | i, k :: r => if v = k then i else idxGo v (i + 1) r
end
end Go.Ab
namespace Go.Ab
section
variable {ext : Callee}
def follows (t : Track) (a b : Int) : Bool := if a < 0 then false else match t.segments[a.toNat]? with
  | some s => decide (0 ≤ idxGo b 0 s.next)
  | none => false
theorem get_none {α : Type} {l : List α} {a : Int} (h : ¬ a < 0) (h' : (l.length : Int) ≤ a) : l[a.toNat]? = none := List.getElem?_eq_none_iff.2 (by omega)
def segLen (t : Track) (x : Int) : Int := match t.segments[x.toNat]? with
  | some s => s.length
  | none => 0
def fitBad (c : Config) (t : Track) (k : Group) : Bool :=
  if k.offset < w64 (w64 (k.acc + c.antenna) + c.maxSpeed) then true else decide (w64 (segLen t k.segment - k.offset) < w64 (w64 (k.acc + c.antenna) + c.maxSpeed))
def fitFirst (c : Config) (t : Track) : Nat → List Group → Option Nat
  | _, [] => none
  | i, k :: r => if fitBad c t k = true then some i else fitFirst c t (i + 1) r
def InT (t : Track) (l : List Int) : Prop := ∀ x ∈ l, ∃ n : Nat, x = n ∧ n < t.segments.length
set_option maxHeartbeats 4000000 in
theorem l46_0 (c : Config) (t : Track) (H : Heap) (hz : t.Sz) (hok : InT t (t.groups.map (·.segment))) : ∀ (r : List Group) (i : Nat), t.groups.drop i = r →
    runL tab ext k46_0 ⟨(upd (upd (upd (upd (upd und 32 (.I i)) 31 (.I t.groups.length)) 30 (VL 5 Group.enc t.groups)) 3 (.c (.ptr (pid H 1) 0))) 2 (.c (.ptr (pid H 0) 0))), hp H [⟨true, (Config.enc c).map .d⟩, ⟨true, (Track.enc t).map .d⟩]⟩ =
    if (fitFirst c t i r).isNone = true then some (.exit 0, ⟨und, hp H [⟨true, (Config.enc c).map .d⟩, ⟨true, (Track.enc t).map .d⟩]⟩) else some (.ret, ⟨(upd (upd und 5 (.I ((fitFirst c t i r).getD 0 : Nat))) 4 (.I 11)), hp H [⟨true, (Config.enc c).map .d⟩, ⟨true, (Track.enc t).map .d⟩]⟩)
  | [], i, hs => by
    have h0 := dr_end hs
    rw [s46_0, b46_0]
    simp (maxSteps := 4000000) only [↓r46_10,  go_sem, ↓reduceIte, Nat.reduceMul, Int.reduceLT, Int.reduceNeg, Int.reduceEq, Int.reduceLE, Int.reduceAdd, Int.reduceSub, Nat.reduceEqDiff, Nat.reduceLeDiff, Nat.reduceLT, Nat.reduceAdd, reduceCtorEq, Config.encC_all, Config.enc_0, Config.enc_1, Config.enc_10, Config.enc_11, Config.enc_12, Config.enc_13, Config.enc_2, Config.enc_3, Config.enc_4, Config.enc_5, Config.enc_6, Config.enc_7, Config.enc_8, Config.enc_9, Config.enc_all, Config.enc_len, Track.encC_all, Track.enc_0, Track.enc_1, Track.enc_all, Track.enc_len, Group.enc, Group.encC_all, Group.enc_0, Group.enc_1, Group.enc_2, Group.enc_3, Group.enc_4, Group.enc_all, Group.enc_len, List.getElem?_map, Option.map_some, List.length_map, map_clC, map_nmC, ei64_0, eu8_0, eL_0, h0]
    simp only [fitFirst, kst, Option.isNone_none, if_true]
  | k :: r, i, hs => by
    obtain ⟨h1, h2, h3⟩ := dr_cons hs
    have ih := l46_0 c t H hz hok r (i + 1) h3
    have h4 := dr_lt h2
    have h5 := w64_inc h2 hz.grps
    obtain ⟨n, hn, hlt⟩ := hok k.segment (List.mem_map_of_mem (List.mem_of_getElem? h1))
    obtain ⟨s, hsg⟩ := get_ex hlt
    rw [s46_0, b46_0]
    simp (maxSteps := 4000000) only [↓r46_10,  go_sem, ↓reduceIte, Nat.reduceMul, Int.reduceLT, Int.reduceNeg, Int.reduceEq, Int.reduceLE, Int.reduceAdd, Int.reduceSub, Nat.reduceEqDiff, Nat.reduceLeDiff, Nat.reduceLT, Nat.reduceAdd, reduceCtorEq, Config.encC_all, Config.enc_0, Config.enc_1, Config.enc_10, Config.enc_11, Config.enc_12, Config.enc_13, Config.enc_2, Config.enc_3, Config.enc_4, Config.enc_5, Config.enc_6, Config.enc_7, Config.enc_8, Config.enc_9, Config.enc_all, Config.enc_len, Track.encC_all, Track.enc_0, Track.enc_1, Track.enc_all, Track.enc_len, Segment.encC_all, Segment.enc_0, Segment.enc_1, Segment.enc_2, Segment.enc_all, Segment.enc_len, Group.enc, Group.encC_all, Group.enc_0, Group.enc_1, Group.enc_2, Group.enc_3, Group.enc_4, Group.enc_all, Group.enc_len, List.getElem?_map, Option.map_some, List.length_map, map_clC, map_nmC, ei64_0, eu8_0, eL_0, h1, h4, h5, ih, hn, hsg, c96]
    simp only [fitFirst, fitBad, segLen, hn, Int.toNat_natCast, hsg, kst]
    repeat' split
    all_goals (first | with_reducible rfl | contradiction | (simp_all; done))
theorem grp_in (t : Track) : ∀ (r : List Group) (i : Nat) (q : Option Group), (grpFirst t i q r).isNone = true → ∀ k ∈ r, ∃ n : Nat, k.segment = n ∧ n < t.segments.length
  | [], _, _, _, k, hk => by cases hk
  | x :: r, i, q, h, k, hk => by
    simp only [grpFirst] at h
    by_cases hb : grpOk t q x = true
    · rw [if_pos hb] at h
      rcases List.mem_cons.1 hk with rfl | hk
      · rcases seg_cases t.segments.length k.segment with h1 | ⟨h1, h1'⟩ | ⟨n, h1, h2⟩
        · have : grpBad t.segments.length q k = true := by simp [grpBad, h1]
          simp [grpOk, this] at hb
        · have : grpBad t.segments.length q k = true := by simp [grpBad, h1, h1']
          simp [grpOk, this] at hb
        · exact ⟨n, h1, h2⟩
      · exact grp_in t r _ _ h k hk
    · rw [if_neg hb] at h; cases h
theorem trk_in {t : Track} (h : (trkCheck t).1 = 0) : InT t (t.groups.map (·.segment)) := by
  have : (grpFirst t 0 none t.groups).isNone = true := by
    simp only [trkCheck] at h
    repeat' split at h
    all_goals (first | (simp_all; done) | assumption)
  intro x hx
  obtain ⟨k, hk, rfl⟩ := List.mem_map.1 hx
  exact grp_in t _ _ _ this k hk
def cfgFits (c : Config) (t : Track) : Int × Int :=
  if ¬ (cfgCheck c).1 = 0 then ((cfgCheck c).1, 0) else if ¬ (trkCheck t).1 = 0 then (51, 0) else if (fitFirst c t 0 t.groups).isNone = true then (0, 0) else (11, ((fitFirst c t 0 t.groups).getD 0 : Nat))
set_option maxHeartbeats 4000000 in
theorem c46 {H : Heap} (c : Config) (t : Track) (hz : t.Sz) : callL tab ext 46 [.agg ((Config.enc c).map .d), .agg ((Track.enc t).map .d)] H = some (.tup [.I (cfgFits c t).1, .I (cfgFits c t).2], H) := by
  have hc := fun H => c95 (ext := ext) (H := H) t hz
  rw [cl_46 rfl, B46]
  by_cases ht : (trkCheck t).1 = 0
  · have hl := l46_0 (ext := ext) c t H hz (trk_in ht) t.groups 0 rfl
    simp only [nat_0] at hl
    simp (maxSteps := 4000000) only [go_sem, ↓reduceIte, Nat.reduceMul, Int.reduceLT, Int.reduceNeg, Int.reduceEq, Int.reduceLE, Int.reduceAdd, Int.reduceSub, Nat.reduceEqDiff, Nat.reduceLeDiff, Nat.reduceLT, Nat.reduceAdd, reduceCtorEq, Config.encC_all, Config.enc_0, Config.enc_1, Config.enc_10, Config.enc_11, Config.enc_12, Config.enc_13, Config.enc_2, Config.enc_3, Config.enc_4, Config.enc_5, Config.enc_6, Config.enc_7, Config.enc_8, Config.enc_9, Config.enc_all, Config.enc_len, Track.encC_all, Track.enc_0, Track.enc_1, Track.enc_all, Track.enc_len, List.getElem?_map, Option.map_some, List.length_map, map_clC, map_nmC, ei64_0, eu8_0, eL_0, hl, c94, hc, ht]
    simp only [cfgFits, ht]
    all_goals ((repeat' (first | with_reducible rfl | with_reducible contradiction | split)) <;> (first | with_reducible rfl | (simp_all; done) | (simp_all; omega) | omega))
  · simp (maxSteps := 4000000) only [go_sem, ↓reduceIte, Nat.reduceMul, Int.reduceLT, Int.reduceNeg, Int.reduceEq, Int.reduceLE, Int.reduceAdd, Int.reduceSub, Nat.reduceEqDiff, Nat.reduceLeDiff, Nat.reduceLT, Nat.reduceAdd, reduceCtorEq, Config.encC_all, Config.enc_0, Config.enc_1, Config.enc_10, Config.enc_11, Config.enc_12, Config.enc_13, Config.enc_2, Config.enc_3, Config.enc_4, Config.enc_5, Config.enc_6, Config.enc_7, Config.enc_8, Config.enc_9, Config.enc_all, Config.enc_len, Track.encC_all, Track.enc_0, Track.enc_1, Track.enc_all, Track.enc_len, List.getElem?_map, Option.map_some, List.length_map, map_clC, map_nmC, ei64_0, eu8_0, eL_0, c94, hc, ht]
    simp only [cfgFits, ht]
    all_goals ((repeat' (first | with_reducible rfl | with_reducible contradiction | split)) <;> (first | with_reducible rfl | (simp_all; done) | (simp_all; omega) | omega))

end
end Go.Ab
namespace Go.Ab
section
variable {ext : Callee}
def startGo (t : Track) : Int → List Int → Int
  | at_, [] => at_
  | at_, k :: r => startGo t (w64 (at_ + segLen t k)) r
set_option maxHeartbeats 4000000 in
theorem l97_0 (t : Track) (l : List Int) (H : Heap) (hin : InT t l) (hn : l.length < 2 ^ 63) : ∀ (r : List Int) (i : Nat) (a : Int), l.drop i = r →
    runL tab ext k97_0 ⟨(upd (upd (upd (upd (upd und 14 (.I i)) 13 (.I l.length)) 12 (VL 1 ei64 l)) 7 (.I a)) 3 (.c (.ptr (pid H 0) 0))), hp H [⟨true, (Track.enc t).map .d⟩]⟩ =
    some (.exit 0, ⟨(upd und 7 (.I (startGo t a r))), hp H [⟨true, (Track.enc t).map .d⟩]⟩)
  | [], i, a, hs => by
    have h0 := dr_end hs
    rw [s97_0, b97_0]
    simp (maxSteps := 4000000) only [ go_sem, ↓reduceIte, Nat.reduceMul, Int.reduceLT, Int.reduceNeg, Int.reduceEq, Int.reduceLE, Int.reduceAdd, Int.reduceSub, Nat.reduceEqDiff, Nat.reduceLeDiff, Nat.reduceLT, Nat.reduceAdd, reduceCtorEq, Track.encC_all, Track.enc_0, Track.enc_1, Track.enc_all, Track.enc_len, Segment.encC_all, Segment.enc_0, Segment.enc_1, Segment.enc_2, Segment.enc_all, Segment.enc_len, List.getElem?_map, Option.map_some, List.length_map, map_clC, map_nmC, ei64_0, eu8_0, eL_0, h0]
    simp only [startGo, kst]
  | k :: r, i, a, hs => by
    obtain ⟨h1, h2, h3⟩ := dr_cons hs
    have ih := fun a => l97_0 t l H hin hn r (i + 1) a h3
    have h4 := dr_lt h2
    have h5 := w64_inc h2 hn
    obtain ⟨n, rfl, hlt⟩ := hin k (List.mem_of_getElem? h1)
    obtain ⟨s, hsg⟩ := get_ex hlt
    rw [s97_0, b97_0]
    simp (maxSteps := 4000000) only [ go_sem, ↓reduceIte, Nat.reduceMul, Int.reduceLT, Int.reduceNeg, Int.reduceEq, Int.reduceLE, Int.reduceAdd, Int.reduceSub, Nat.reduceEqDiff, Nat.reduceLeDiff, Nat.reduceLT, Nat.reduceAdd, reduceCtorEq, Track.encC_all, Track.enc_0, Track.enc_1, Track.enc_all, Track.enc_len, Segment.encC_all, Segment.enc_0, Segment.enc_1, Segment.enc_2, Segment.enc_all, Segment.enc_len, List.getElem?_map, Option.map_some, List.length_map, map_clC, map_nmC, ei64_0, eu8_0, eL_0, h1, h4, h5, ih, hsg]
    simp only [startGo, segLen, Int.toNat_natCast, hsg, kst]
theorem InT.take {t : Track} {l : List Int} (h : InT t l) (n : Nat) : InT t (l.take n) := fun x hx => h x (List.mem_of_mem_take hx)
set_option maxHeartbeats 4000000 in
theorem c97 {H : Heap} (t : Track) (l : List Int) (n : Nat) (hin : InT t (l.take n)) (hn : l.length < 2 ^ 63) (hle : n ≤ l.length) : callL tab ext 97 [.agg ((Track.enc t).map .d), VL 1 ei64 l, .I n] H = some (.I (startGo t 0 (l.take n)), H) := by
  have hl := fun a => l97_0 (ext := ext) t (l.take n) H hin (by simp; omega) (l.take n) 0 a rfl
  simp only [nat_0] at hl
  have h1 : (n ≤ l.length) = True := by simp; exact hle
  rw [cl_97 rfl, B97]
  simp (maxSteps := 4000000) only [go_sem, ↓reduceIte, Nat.reduceMul, Int.reduceLT, Int.reduceNeg, Int.reduceEq, Int.reduceLE, Int.reduceAdd, Int.reduceSub, Nat.reduceEqDiff, Nat.reduceLeDiff, Nat.reduceLT, Nat.reduceAdd, reduceCtorEq, Track.encC_all, Track.enc_0, Track.enc_1, Track.enc_all, Track.enc_len, List.getElem?_map, Option.map_some, List.length_map, map_clC, map_nmC, ei64_0, eu8_0, eL_0, hl, h1, Nat.sub_zero, ← List.map_take]
def routeBad (t : Track) (q : Option Int) (k : Int) : Bool :=
  if k < 0 then true else if (t.segments.length : Int) ≤ k then true else match q with
    | some z => !(follows t z k)
    | none => false
def routeGo (t : Track) : Option Int → List Int → Bool
  | _, [] => true
  | q, k :: r => if routeBad t q k = true then false else routeGo t (some k) r
def routeOk (t : Track) (s : Script) : Bool := if s.route.length = 0 then false else if 400 < (s.route.length : Int) then false else routeGo t none s.route
end
end Go.Ab
namespace Go.Ab
section
variable {ext : Callee}
def onGo (len : Int) : Int → List Tick → Bool
  | _, [] => true
  | a, k :: r => if within k.v len = false then false else if w64 (a + k.v) < 0 then false else if len < w64 (a + k.v) then false else onGo len (w64 (a + k.v)) r
def onOk (t : Track) (s : Script) : Bool :=
  if 4096 < (s.ticks.length : Int) then false else if s.start < 0 then false else if startGo t 0 s.route < s.start then false else onGo (startGo t 0 s.route) s.start s.ticks
def speedsGo (c : Config) : Int → List Tick → Bool
  | _, [] => true
  | v, k :: r => if within k.v c.maxSpeed = false then false else if within (w64 (k.v - v)) c.maxAccel = false then false else speedsGo c k.v r
def speedsOk (c : Config) (s : Script) : Bool := if within s.v0 c.maxSpeed = false then false else speedsGo c s.v0 s.ticks
def wheelOk (c : Config) (x p : Int) : Bool := if spanHas ⟨c.circLo, c.circHi⟩ x = false then false else if p < 0 then false else decide (p < x)
def wheelsOk (c : Config) (s : Script) : Bool := wheelOk c (s.circ 0) (s.phase 0) && wheelOk c (s.circ 1) (s.phase 1)
def numsBad (c : Config) (k : Tick) : Bool := if within (k.slip 0) 1099511627776 = false then true else if within (k.slip 1) 1099511627776 = false then true else if within k.rad 1073741824 = false then true else !(within k.acc c.accErr)
def numsGo (c : Config) : List Tick → Bool
  | [] => true
  | k :: r => if numsBad c k = true then false else numsGo c r
end
end Go.Ab
