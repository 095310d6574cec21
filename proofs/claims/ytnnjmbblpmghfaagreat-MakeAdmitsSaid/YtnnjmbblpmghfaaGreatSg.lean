/-
  What functions of the program come to.
  Conditions: none.
-/
import Derived.Test.YtnnjmbblpmghfaaGreatSf
set_option linter.unusedSimpArgs false
set_option linter.unusedVariables false
namespace Go.Ab
section
variable {ext : Callee}
structure Maker where
  c : Config
  t : Track
  route : List Int
  start : Int
  v0 : Int
  circ : Nat → Int
  phase : Nat → Int
  ticks : List Tick
  reads : List Read
  length : Int
  at_ : Int
  v : Int
  goal : Int
  turned : Nat → Int
  calm : Int
def MK (dp : C) (m : Maker) : List C := [dp, J m.c.pulses, J m.c.circLo, J m.c.circHi, J m.c.radBase, J m.c.radPart, J m.c.accErr, J m.c.maxSpeed, J m.c.maxAccel, J m.c.antenna, J m.c.still, J m.c.stillSpeed, J m.c.roll, J m.c.timeout, J m.c.brake, .d (.l 3 (m.t.segments.map Segment.enc)), .d (.l 5 (m.t.groups.map Group.enc)), ownL 3 1 ei64 m.route, J m.start, J m.v0, J (m.circ 0), J (m.circ 1), J (m.phase 0), J (m.phase 1), ownL 88 11 Tick.enc m.ticks, ownL 137 4 Read.enc m.reads, J m.length, J m.at_, J m.v, J m.goal, J (m.turned 0), J (m.turned 1), J m.calm]
theorem MK_0 (dp : C) (m : Maker) : (MK dp m)[0]? = some (dp) := rfl
theorem MK_1 (dp : C) (m : Maker) : (MK dp m)[1]? = some (J m.c.pulses) := rfl
theorem MK_2 (dp : C) (m : Maker) : (MK dp m)[2]? = some (J m.c.circLo) := rfl
theorem MK_3 (dp : C) (m : Maker) : (MK dp m)[3]? = some (J m.c.circHi) := rfl
theorem MK_4 (dp : C) (m : Maker) : (MK dp m)[4]? = some (J m.c.radBase) := rfl
theorem MK_5 (dp : C) (m : Maker) : (MK dp m)[5]? = some (J m.c.radPart) := rfl
theorem MK_6 (dp : C) (m : Maker) : (MK dp m)[6]? = some (J m.c.accErr) := rfl
theorem MK_7 (dp : C) (m : Maker) : (MK dp m)[7]? = some (J m.c.maxSpeed) := rfl
theorem MK_8 (dp : C) (m : Maker) : (MK dp m)[8]? = some (J m.c.maxAccel) := rfl
theorem MK_9 (dp : C) (m : Maker) : (MK dp m)[9]? = some (J m.c.antenna) := rfl
theorem MK_10 (dp : C) (m : Maker) : (MK dp m)[10]? = some (J m.c.still) := rfl
theorem MK_11 (dp : C) (m : Maker) : (MK dp m)[11]? = some (J m.c.stillSpeed) := rfl
theorem MK_12 (dp : C) (m : Maker) : (MK dp m)[12]? = some (J m.c.roll) := rfl
theorem MK_13 (dp : C) (m : Maker) : (MK dp m)[13]? = some (J m.c.timeout) := rfl
theorem MK_14 (dp : C) (m : Maker) : (MK dp m)[14]? = some (J m.c.brake) := rfl
theorem MK_15 (dp : C) (m : Maker) : (MK dp m)[15]? = some (.d (.l 3 (m.t.segments.map Segment.enc))) := rfl
theorem MK_16 (dp : C) (m : Maker) : (MK dp m)[16]? = some (.d (.l 5 (m.t.groups.map Group.enc))) := rfl
theorem MK_17 (dp : C) (m : Maker) : (MK dp m)[17]? = some (ownL 3 1 ei64 m.route) := rfl
theorem MK_18 (dp : C) (m : Maker) : (MK dp m)[18]? = some (J m.start) := rfl
theorem MK_19 (dp : C) (m : Maker) : (MK dp m)[19]? = some (J m.v0) := rfl
theorem MK_20 (dp : C) (m : Maker) : (MK dp m)[20]? = some (J (m.circ 0)) := rfl
theorem MK_21 (dp : C) (m : Maker) : (MK dp m)[21]? = some (J (m.circ 1)) := rfl
theorem MK_22 (dp : C) (m : Maker) : (MK dp m)[22]? = some (J (m.phase 0)) := rfl
theorem MK_23 (dp : C) (m : Maker) : (MK dp m)[23]? = some (J (m.phase 1)) := rfl
theorem MK_24 (dp : C) (m : Maker) : (MK dp m)[24]? = some (ownL 88 11 Tick.enc m.ticks) := rfl
theorem MK_25 (dp : C) (m : Maker) : (MK dp m)[25]? = some (ownL 137 4 Read.enc m.reads) := rfl
theorem MK_26 (dp : C) (m : Maker) : (MK dp m)[26]? = some (J m.length) := rfl
theorem MK_27 (dp : C) (m : Maker) : (MK dp m)[27]? = some (J m.at_) := rfl
theorem MK_28 (dp : C) (m : Maker) : (MK dp m)[28]? = some (J m.v) := rfl
theorem MK_29 (dp : C) (m : Maker) : (MK dp m)[29]? = some (J m.goal) := rfl
theorem MK_30 (dp : C) (m : Maker) : (MK dp m)[30]? = some (J (m.turned 0)) := rfl
theorem MK_31 (dp : C) (m : Maker) : (MK dp m)[31]? = some (J (m.turned 1)) := rfl
theorem MK_32 (dp : C) (m : Maker) : (MK dp m)[32]? = some (J m.calm) := rfl
theorem MK_len (dp : C) (m : Maker) : (MK dp m).length = 33 := rfl
theorem MKs_1 (dp : C) (m : Maker) : ((MK dp m).drop 1).take 14 = (Config.enc m.c).map .d := rfl
theorem MKs_15 (dp : C) (m : Maker) : ((MK dp m).drop 15).take 2 = (Track.enc m.t).map .d := rfl
theorem MKs_20 (dp : C) (m : Maker) : ((MK dp m).drop 20).take 2 = [J (m.circ 0), J (m.circ 1)] := rfl
theorem MKs_17 (dp : C) (m : Maker) : ((MK dp m).drop 17).take 9 = [ownL 3 1 ei64 m.route, J m.start, J m.v0, J (m.circ 0), J (m.circ 1), J (m.phase 0), J (m.phase 1), ownL 88 11 Tick.enc m.ticks, ownL 137 4 Read.enc m.reads] := rfl
theorem MKt_17 (dp : C) (m : Maker) (x : List Int) : (MK dp m).set 17 (ownL 3 1 ei64 x) = MK dp { m with route := x } := rfl
theorem MKt_18 (dp : C) (m : Maker) (x : Int) : (MK dp m).set 18 (J x) = MK dp { m with start := x } := rfl
theorem MKt_20 (dp : C) (m : Maker) (x : Int) : (MK dp m).set 20 (J x) = MK dp { m with circ := fun w => if w = 0 then x else m.circ w } := rfl
theorem MKt_21 (dp : C) (m : Maker) (x : Int) : (MK dp m).set 21 (J x) = MK dp { m with circ := fun w => if w = 1 then x else m.circ w } := rfl
theorem MKt_22 (dp : C) (m : Maker) (x : Int) : (MK dp m).set 22 (J x) = MK dp { m with phase := fun w => if w = 0 then x else m.phase w } := rfl
theorem MKt_23 (dp : C) (m : Maker) (x : Int) : (MK dp m).set 23 (J x) = MK dp { m with phase := fun w => if w = 1 then x else m.phase w } := rfl
theorem MKt_30 (dp : C) (m : Maker) (x : Int) : (MK dp m).set 30 (J x) = MK dp { m with turned := fun w => if w = 0 then x else m.turned w } := rfl
theorem MKt_31 (dp : C) (m : Maker) (x : Int) : (MK dp m).set 31 (J x) = MK dp { m with turned := fun w => if w = 1 then x else m.turned w } := rfl
theorem MKt_24 (dp : C) (m : Maker) (x : List Tick) : (MK dp m).set 24 (ownL 88 11 Tick.enc x) = MK dp { m with ticks := x } := rfl
theorem MKt_25 (dp : C) (m : Maker) (x : List Read) : (MK dp m).set 25 (ownL 137 4 Read.enc x) = MK dp { m with reads := x } := rfl
theorem MKt_26 (dp : C) (m : Maker) (x : Int) : (MK dp m).set 26 (J x) = MK dp { m with length := x } := rfl
theorem MKt_27 (dp : C) (m : Maker) (x : Int) : (MK dp m).set 27 (J x) = MK dp { m with at_ := x } := rfl
theorem MKt_28 (dp : C) (m : Maker) (x : Int) : (MK dp m).set 28 (J x) = MK dp { m with v := x } := rfl
theorem MKt_29 (dp : C) (m : Maker) (x : Int) : (MK dp m).set 29 (J x) = MK dp { m with goal := x } := rfl
theorem MKt_32 (dp : C) (m : Maker) (x : Int) : (MK dp m).set 32 (J x) = MK dp { m with calm := x } := rfl
attribute [go_sem] MK_0 MK_1 MK_2 MK_3 MK_4 MK_5 MK_6 MK_7 MK_8 MK_9 MK_10 MK_11 MK_12 MK_13 MK_14 MK_15 MK_16 MK_17 MK_18 MK_19 MK_20 MK_21 MK_22 MK_23 MK_24 MK_25 MK_26 MK_27 MK_28 MK_29 MK_30 MK_31 MK_32 MK_len MKs_1 MKs_15 MKs_20 MKs_17 MKt_17 MKt_18 MKt_20 MKt_21 MKt_22 MKt_23 MKt_30 MKt_31 MKt_24 MKt_25 MKt_26 MKt_27 MKt_28 MKt_29 MKt_32
/-! The maker's memory: the dice's box and the maker's box, in a heap. -/
def mset (H : Heap) (i j : Nat) (d : Int) (cs : List C) : Heap := (H.set i ⟨true, [U d]⟩).set j ⟨true, cs⟩
structure Two (H : Heap) (i j : Nat) : Prop where
  lt : i < j
  le : j < H.length
section
variable {H : Heap} {i j : Nat}
theorem Two.hp (h : Two H i j) (F : List Box) : Two (hp H F) i j := ⟨h.lt, by have := h.le; simp [Go.Ab.hp]; omega⟩
theorem mset_j (h : Two H i j) {d : Int} {cs : List C} : (mset H i j d cs)[j]? = some ⟨true, cs⟩ := by
  have := h.le
  unfold mset
  rw [List.getElem?_set_self (by simpa using this)]
theorem mset_i (h : Two H i j) {d : Int} {cs : List C} : (mset H i j d cs)[i]? = some ⟨true, [U d]⟩ := by
  have := h.le; have := h.lt
  unfold mset
  rw [List.getElem?_set_ne (by omega), List.getElem?_set_self (by omega)]
theorem mset_setj {d : Int} {cs cs' : List C} : (mset H i j d cs).set j ⟨true, cs'⟩ = mset H i j d cs' := by
  unfold mset; rw [List.set_set]
theorem mset_seti (h : Two H i j) {d d' : Int} {cs : List C} : (mset H i j d cs).set i ⟨true, [U d']⟩ = mset H i j d' cs := by
  have := h.lt
  unfold mset
  rw [List.set_comm _ _ (by omega), List.set_set]
theorem mset_hp (h : Two H i j) {d : Int} {cs : List C} {F : List Box} : hp (mset H i j d cs) F = mset (hp H F) i j d cs := by
  have := h.le; have := h.lt
  unfold mset hp
  rw [List.set_append_left _ _ (by omega), List.set_append_left _ _ (by simpa using by omega)]
theorem mset_len {d : Int} {cs : List C} : (mset H i j d cs).length = H.length := by simp [mset]
theorem mset_get (h : Two H i j) {d : Int} {cs : List C} {F : List Box} {k : Nat} : (mset (hp H F) i j d cs)[pid H k]? = F[k]? := by
  rw [← mset_hp h]
  have : pid H k = pid (mset H i j d cs) k := by simp [pid, mset_len]
  rw [this, hp_get]
theorem mset_put (h : Two H i j) {d : Int} {cs : List C} {F : List Box} {k : Nat} {b : Box} : (mset (hp H F) i j d cs).set (pid H k) b = mset (hp H (F.set k b)) i j d cs := by
  rw [← mset_hp h, ← mset_hp h]
  have : pid H k = pid (mset H i j d cs) k := by simp [pid, mset_len]
  rw [this, hp_set]
theorem mset_add (h : Two H i j) {d : Int} {cs : List C} {F : List Box} {b : Box} : mset (hp H F) i j d cs ++ [b] = mset (hp H (F ++ [b])) i j d cs := by
  rw [← mset_hp h, ← mset_hp h, hp_add]
theorem mset_plen {d : Int} {cs : List C} {F : List Box} : (mset (hp H F) i j d cs).length = pid H F.length := by rw [mset_len, hp_len]
theorem mset_take0 (h : Two H i j) {d : Int} {cs : List C} {F : List Box} : (mset (hp H F) i j d cs).take H.length = mset H i j d cs := by
  rw [← mset_hp h, ← mset_len (H := H) (i := i) (j := j) (d := d) (cs := cs), hp_take0]
theorem mset_take (h : Two H i j) {d : Int} {cs : List C} {F : List Box} {k : Nat} : (mset (hp H F) i j d cs).take (pid H k) = mset (hp H (F.take k)) i j d cs := by
  rw [← mset_hp h, ← mset_hp h]
  have : pid H k = pid (mset H i j d cs) k := by simp [pid, mset_len]
  rw [this, hp_take]
theorem Two.bd (h : Two H i j) {k : Nat} : (pid H k + 1 ≤ pid H k + 1) := Nat.le_refl _
end
theorem hp_seto {B : Heap} {L : List Box} {i : Nat} {b : Box} (h : i < B.length) : (hp B L).set i b = hp (B.set i b) L := by
  unfold hp; rw [List.set_append_left _ _ h]
theorem hp_take1 {B : Heap} {L : List Box} {i : Nat} {b : Box} : (hp (B.set i b) L).take B.length = B.set i b := by
  have : B.length = (B.set i b).length := by simp
  rw [this, hp_take0]
/-! The dice. -/
def rnd (d : Int) : Int := u64 (u64 (d * 6364136223846793005) + 1442695040888963407)
def rto (d n : Int) : Int := if n < 1 then 0 else (w64 (ishr .u64 (rnd d) 33)).tmod n
set_option maxHeartbeats 4000000 in
theorem c48 {H : Heap} {i : Nat} (d n : Int) (hi : H[i]? = some ⟨true, [U d]⟩) : callL tab ext 48 [.c (.ptr i 0), .I n] H = some (.I (rto d n), H.set i ⟨true, [U (rnd d)]⟩) := by
  have hlt : i < H.length := (List.getElem?_eq_some_iff.1 hi).1
  have h2 : ∀ b, (H.set i b)[i]? = some b := fun b => by rw [List.getElem?_set_self hlt]
  have g1 := fun L => hp_old (L := L) hi
  have g2 := fun L b => hp_seto (L := L) (b := b) hlt
  have g3 := fun L b => hp_old (L := L) (h2 b)
  rw [cl_48 rfl, B48]
  simp (maxSteps := 4000000) only [ go_sem, ↓reduceIte, Nat.reduceMul, Int.reduceLT, Int.reduceNeg, Int.reduceEq, Int.reduceLE, Int.reduceAdd, Int.reduceSub, Nat.reduceEqDiff, Nat.reduceLeDiff, Nat.reduceLT, Nat.reduceAdd, reduceCtorEq, List.getElem?_map, Option.map_some, List.length_map, map_clC, map_nmC, ei64_0, eu8_0, eL_0, g1, g2, g3, hp_take1, u64_eq]
  simp only [rto, rnd]
  by_cases h0 : n < 1
  · simp only [h0, if_true]
  · have h1 : ¬ n = 0 := by omega
    simp only [h0, h1, if_false]
theorem c99 {H : Heap} {i : Nat} (d n : Int) (hi : H[i]? = some ⟨true, [U d]⟩) : callL tab ext 99 [.c (.ptr i 0), .I n] H = some (.B (decide (rto d n = 0)), H.set i ⟨true, [U (rnd d)]⟩) := by
  have hlt : i < H.length := (List.getElem?_eq_some_iff.1 hi).1
  have h48 := fun n => c48 (ext := ext) (H := hp H []) (i := i) d n (hp_old hi)
  have g2 := fun L b => hp_seto (L := L) (b := b) hlt
  rw [cl_99 rfl, B99]
  simp (maxSteps := 4000000) only [ go_sem, ↓reduceIte, Nat.reduceMul, Int.reduceLT, Int.reduceNeg, Int.reduceEq, Int.reduceLE, Int.reduceAdd, Int.reduceSub, Nat.reduceEqDiff, Nat.reduceLeDiff, Nat.reduceLT, Nat.reduceAdd, reduceCtorEq, List.getElem?_map, Option.map_some, List.length_map, map_clC, map_nmC, ei64_0, eu8_0, eL_0, h48, g2, hp_take1]

end
end Go.Ab
namespace Go.Ab
section
variable {ext : Callee}
section
variable {H : Heap} {j : Nat} {dp : C} {m : Maker}
def mkCnt (m : Maker) (w : Nat) (t : Int) : Int := (rFloor t 1 (m.circ w)).1
theorem c281 (w : Nat) (hw : w = 0 ∨ w = 1) (t : Int) (hH : H[j]? = some ⟨true, MK dp m⟩) : callL tab ext 281 [.c (.ptr j 0), .I w, .I t] H = some (.I (mkCnt m w t), H) := by
  have g1 := fun L => hp_old (L := L) hH
  rw [cl_281 rfl, B281]
  rcases hw with rfl | rfl
  · simp only [nat_0]
    simp (maxSteps := 4000000) -implicitDefEqProofs only [ go_sem, ↓reduceIte, Nat.reduceMul, Int.reduceLT, Int.reduceNeg, Int.reduceEq, Int.reduceLE, Int.reduceAdd, Int.reduceSub, Nat.reduceEqDiff, Nat.reduceLeDiff, Nat.reduceLT, Nat.reduceAdd, reduceCtorEq, List.getElem?_map, Option.map_some, List.length_map, map_clC, map_nmC, ei64_0, eu8_0, eL_0, g1, c111]
    rfl
  · simp only [nat_1]
    simp (maxSteps := 4000000) -implicitDefEqProofs only [ go_sem, ↓reduceIte, Nat.reduceMul, Int.reduceLT, Int.reduceNeg, Int.reduceEq, Int.reduceLE, Int.reduceAdd, Int.reduceSub, Nat.reduceEqDiff, Nat.reduceLeDiff, Nat.reduceLT, Nat.reduceAdd, reduceCtorEq, List.getElem?_map, Option.map_some, List.length_map, map_clC, map_nmC, ei64_0, eu8_0, eL_0, g1, c111]
    rfl
def mkTac (m : Maker) (w : Nat) (more : Int) : Span := saysT m.c (mkCnt m w (m.turned w)) (mkCnt m w (w64 (m.turned w + more)))
set_option maxHeartbeats 4000000 in
theorem c214 (w : Nat) (hw : w = 0 ∨ w = 1) (more : Int) (hH : H[j]? = some ⟨true, MK dp m⟩) : callL tab ext 214 [.c (.ptr j 0), .I w, .I more] H = some (.agg [J (mkTac m w more).lo, J (mkTac m w more).hi], H) := by
  have g1 := fun L => hp_old (L := L) hH
  have g2 := fun L t => c281 (ext := ext) (H := hp H L) w hw t (hp_old hH)
  rw [cl_214 rfl, B214]
  rcases hw with rfl | rfl
  · simp only [nat_0] at g2 ⊢
    simp (maxSteps := 4000000) -implicitDefEqProofs only [↓r214_1, ↓r214_2,  go_sem, ↓reduceIte, Nat.reduceMul, Int.reduceLT, Int.reduceNeg, Int.reduceEq, Int.reduceLE, Int.reduceAdd, Int.reduceSub, Nat.reduceEqDiff, Nat.reduceLeDiff, Nat.reduceLT, Nat.reduceAdd, reduceCtorEq, Span.enc, Span.encC_all, Span.enc_0, Span.enc_1, Span.enc_all, Span.enc_len, List.getElem?_map, Option.map_some, List.length_map, map_clC, map_nmC, ei64_0, eu8_0, eL_0, g1, g2, c223, c110, c224]
    rfl
  · simp only [nat_1] at g2 ⊢
    simp (maxSteps := 4000000) -implicitDefEqProofs only [↓r214_1, ↓r214_2,  go_sem, ↓reduceIte, Nat.reduceMul, Int.reduceLT, Int.reduceNeg, Int.reduceEq, Int.reduceLE, Int.reduceAdd, Int.reduceSub, Nat.reduceEqDiff, Nat.reduceLeDiff, Nat.reduceLT, Nat.reduceAdd, reduceCtorEq, Span.enc, Span.encC_all, Span.enc_0, Span.enc_1, Span.enc_all, Span.enc_len, List.getElem?_map, Option.map_some, List.length_map, map_clC, map_nmC, ei64_0, eu8_0, eL_0, g1, g2, c223, c110, c224]
    rfl
def stopsV (m : Maker) (a v : Int) : Bool :=
  if a < 0 then false else if m.length < a then false else
  decide (w64 (w64 ((w64 ((if v < 0 then w64 (0 - v) else v).tdiv m.c.maxAccel)) * (if v < 0 then w64 (0 - v) else v)) - w64 (m.c.maxAccel * w64 ((w64 ((w64 ((if v < 0 then w64 (0 - v) else v).tdiv m.c.maxAccel)) * w64 ((w64 ((if v < 0 then w64 (0 - v) else v).tdiv m.c.maxAccel)) + 1))).tdiv 2))) ≤ (if v < 0 then a else w64 (m.length - a)))
set_option maxHeartbeats 4000000 in
theorem c143 (a v : Int) (hH : H[j]? = some ⟨true, MK dp m⟩) (hm : ¬ m.c.maxAccel = 0) : callL tab ext 143 [.c (.ptr j 0), .I a, .I v] H = some (.B (stopsV m a v), H) := by
  have g1 := fun L => hp_old (L := L) hH
  rw [cl_143 rfl, B143]
  simp (maxSteps := 4000000) -implicitDefEqProofs only [ go_sem, ↓reduceIte, Nat.reduceMul, Int.reduceLT, Int.reduceNeg, Int.reduceEq, Int.reduceLE, Int.reduceAdd, Int.reduceSub, Nat.reduceEqDiff, Nat.reduceLeDiff, Nat.reduceLT, Nat.reduceAdd, reduceCtorEq, List.getElem?_map, Option.map_some, List.length_map, map_clC, map_nmC, ei64_0, eu8_0, eL_0, g1, hm]
  simp only [stopsV]
  all_goals ((repeat' (first | with_reducible rfl | with_reducible contradiction | split)) <;> (first | with_reducible rfl | (simp_all; done) | (simp_all; omega) | omega))
end

end
end Go.Ab
namespace Go.Ab
section
variable {ext : Callee}
section
variable {H : Heap} {j : Nat} {dp : C} {m : Maker}
def mkShows (m : Maker) (y : Tick) : Bool := !(common [mkTac m 0 (w64 (w64 (m.c.pulses * y.v) + y.slip 0)), mkTac m 1 (w64 (w64 (m.c.pulses * y.v) + y.slip 1)), saysR m.c y]).2
set_option maxHeartbeats 8000000 in
set_option maxRecDepth 20000 in
theorem c144 (y : Tick) (hH : H[j]? = some ⟨true, MK dp m⟩) : callL tab ext 144 [.c (.ptr j 0), .agg ((Tick.enc y).map .d)] H = some (.B (mkShows m y), H) := by
  have g1 := fun L => hp_old (L := L) hH
  have g2 := fun L t => c214 (ext := ext) (H := hp H L) (m := m) 0 (Or.inl rfl) t (hp_old hH)
  have g3 := fun L t => c214 (ext := ext) (H := hp H L) (m := m) 1 (Or.inr rfl) t (hp_old hH)
  have g4 := fun H s0 s1 s2 => c154 (ext := ext) (H := H) [s0, s1, s2] (by simp)
  simp only [nat_0, nat_1] at g2 g3
  have g5 : ∀ (H : Heap) (s0 s1 : Span) (a b : Int), callL tab ext 154 [.c (.d (.l 2 [[.i .i64 s0.lo, .i .i64 s0.hi], [.i .i64 s1.lo, .i .i64 s1.hi], [.i .i64 a, .i .i64 b]]))] H = some (.tup [.agg [J (common [s0, s1, ⟨a, b⟩]).1.lo, J (common [s0, s1, ⟨a, b⟩]).1.hi], .B (common [s0, s1, ⟨a, b⟩]).2], H) := fun H s0 s1 a b => g4 H s0 s1 ⟨a, b⟩
  have g6 : ∀ a b c d e f : D, chop 2 3 [a, b, c, d, e, f] = [[a, b], [c, d], [e, f]] := fun _ _ _ _ _ _ => rfl
  rw [cl_144 rfl, B144]
  simp (maxSteps := 4000000) -implicitDefEqProofs only [↓r144_1, ↓r144_2,  go_sem, ↓reduceIte, Nat.reduceMul, Int.reduceLT, Int.reduceNeg, Int.reduceEq, Int.reduceLE, Int.reduceAdd, Int.reduceSub, Nat.reduceEqDiff, Nat.reduceLeDiff, Nat.reduceLT, Nat.reduceAdd, reduceCtorEq, Tick.encC_all, Tick.enc_0, Tick.enc_1, Tick.enc_10, Tick.enc_2, Tick.enc_3, Tick.enc_4, Tick.enc_5, Tick.enc_6, Tick.enc_7, Tick.enc_8, Tick.enc_9, Tick.enc_all, Tick.enc_len, Tick.subC_1_2, Tick.subC_5_4, Tick.sub_1_2, Tick.sub_5_4, Span.enc, Span.encC_all, Span.enc_0, Span.enc_1, Span.enc_all, Span.enc_len, List.getElem?_map, Option.map_some, List.length_map, map_clC, map_nmC, ei64_0, eu8_0, eL_0, g1, g2, g3, g5, g6, c215]
  simp only [mkShows, saysR, Span.eta]
end

end
end Go.Ab
namespace Go.Ab
section
variable {ext : Callee}
def clampV (x a : Int) : Int := if a < (if w64 (0 - a) > x then w64 (0 - a) else x) then a else (if w64 (0 - a) > x then w64 (0 - a) else x)
def spA (d : Int) (m : Maker) : Int × Maker := if rto d 20 = 0 then (rnd (rnd d), { m with goal := w64 (rto (rnd d) (w64 (w64 (2 * m.c.maxSpeed) + 1)) - w64 (m.c.maxSpeed.tdiv 2)) }) else (rnd d, m)
def spB (d : Int) (m : Maker) : Int × Maker := if rto (spA d m).1 20 = 0 then (rnd (spA d m).1, { (spA d m).2 with goal := 0 }) else (rnd (spA d m).1, (spA d m).2)
def spNext (m : Maker) : Int := w64 (m.v + clampV (w64 (clampV m.goal m.c.maxSpeed - m.v)) m.c.maxAccel)
def spV (m : Maker) : Int := if stopsV m (w64 (m.at_ + spNext m)) (spNext m) = true then spNext m else w64 (m.v - clampV m.v m.c.maxAccel)
section
variable {H : Heap} {i j : Nat}
set_option maxHeartbeats 8000000 in
set_option maxRecDepth 20000 in
theorem c98 (hT : Two H i j) (d : Int) (m : Maker) (hm : ¬ m.c.maxAccel = 0) : callL tab ext 98 [.c (.ptr j 0)] (mset H i j d (MK (.ptr i 0) m)) = some (.I (spV (spB d m).2), mset H i j (spB d m).1 (MK (.ptr i 0) (spB d m).2)) := by
  have e1 := fun F d cs => mset_j (hT.hp F) (d := d) (cs := cs)
  have e2 := fun F d cs => mset_i (hT.hp F) (d := d) (cs := cs)
  have e3 := fun F d cs cs' => mset_setj (H := hp H F) (i := i) (j := j) (d := d) (cs := cs) (cs' := cs')
  have e4 := fun F d d' cs => mset_seti (hT.hp F) (d := d) (d' := d') (cs := cs)
  have e5 := fun F d cs => mset_hp hT (d := d) (cs := cs) (F := F)
  have e6 := fun F d cs k => mset_get hT (d := d) (cs := cs) (F := F) (k := k)
  have e7 := fun F d cs k b => mset_put hT (d := d) (cs := cs) (F := F) (k := k) (b := b)
  have e8 := fun F d cs b => mset_add hT (d := d) (cs := cs) (F := F) (b := b)
  have e9 := fun F d cs => mset_plen (H := H) (i := i) (j := j) (d := d) (cs := cs) (F := F)
  have e10 := fun F d cs => mset_take0 hT (d := d) (cs := cs) (F := F)
  have e11 := fun F d cs k => mset_take hT (d := d) (cs := cs) (F := F) (k := k)
  have e12 := fun d cs => mset_len (H := H) (i := i) (j := j) (d := d) (cs := cs)
  have g48 := fun F d cs n => c48 (ext := ext) (H := mset (hp H F) i j d cs) (i := i) d n (mset_i (hT.hp F))
  have g99 := fun F d cs n => c99 (ext := ext) (H := mset (hp H F) i j d cs) (i := i) d n (mset_i (hT.hp F))
  have g1 := fun F d a v => c143 (ext := ext) (H := mset (hp H F) i j d (MK (.ptr i 0) m)) (m := m) a v (mset_j (hT.hp F)) hm
  have g2 := fun F d x a v => c143 (ext := ext) (H := mset (hp H F) i j d (MK (.ptr i 0) { m with goal := x })) (m := { m with goal := x }) a v (mset_j (hT.hp F)) hm
  rw [cl_98 rfl, B98]
  by_cases h1 : rto d 20 = 0
  · by_cases h2 : rto (rnd (rnd d)) 20 = 0
    · simp (maxSteps := 4000000) -implicitDefEqProofs only [↓r98_2, ↓r98_5, ↓r98_6, ↓r98_9,  go_sem, ↓reduceIte, Nat.reduceMul, Int.reduceLT, Int.reduceNeg, Int.reduceEq, Int.reduceLE, Int.reduceAdd, Int.reduceSub, Nat.reduceEqDiff, Nat.reduceLeDiff, Nat.reduceLT, Nat.reduceAdd, reduceCtorEq, Config.encC_all, Config.enc_0, Config.enc_1, Config.enc_10, Config.enc_11, Config.enc_12, Config.enc_13, Config.enc_2, Config.enc_3, Config.enc_4, Config.enc_5, Config.enc_6, Config.enc_7, Config.enc_8, Config.enc_9, Config.enc_all, Config.enc_len, List.getElem?_map, Option.map_some, List.length_map, map_clC, map_nmC, ei64_0, eu8_0, eL_0, e1, e2, e3, e4, e5, e6, e7, e8, e9, e10, e11, e12, g48, g99, g1, g2, h1, h2]
      simp only [spB, spA, h1, h2, if_true, spV, spNext, clampV]
      all_goals ((repeat' (first | with_reducible rfl | with_reducible contradiction | split)) <;> (first | with_reducible rfl | (simp_all; done) | (simp_all; omega) | omega))
    · simp (maxSteps := 4000000) -implicitDefEqProofs only [↓r98_2, ↓r98_5, ↓r98_6, ↓r98_9,  go_sem, ↓reduceIte, Nat.reduceMul, Int.reduceLT, Int.reduceNeg, Int.reduceEq, Int.reduceLE, Int.reduceAdd, Int.reduceSub, Nat.reduceEqDiff, Nat.reduceLeDiff, Nat.reduceLT, Nat.reduceAdd, reduceCtorEq, Config.encC_all, Config.enc_0, Config.enc_1, Config.enc_10, Config.enc_11, Config.enc_12, Config.enc_13, Config.enc_2, Config.enc_3, Config.enc_4, Config.enc_5, Config.enc_6, Config.enc_7, Config.enc_8, Config.enc_9, Config.enc_all, Config.enc_len, List.getElem?_map, Option.map_some, List.length_map, map_clC, map_nmC, ei64_0, eu8_0, eL_0, e1, e2, e3, e4, e5, e6, e7, e8, e9, e10, e11, e12, g48, g99, g1, g2, h1, h2]
      simp only [spB, spA, h1, h2, if_true, if_false, spV, spNext, clampV]
      all_goals ((repeat' (first | with_reducible rfl | with_reducible contradiction | split)) <;> (first | with_reducible rfl | (simp_all; done) | (simp_all; omega) | omega))
  · by_cases h2 : rto (rnd d) 20 = 0
    · simp (maxSteps := 4000000) -implicitDefEqProofs only [↓r98_2, ↓r98_5, ↓r98_6, ↓r98_9,  go_sem, ↓reduceIte, Nat.reduceMul, Int.reduceLT, Int.reduceNeg, Int.reduceEq, Int.reduceLE, Int.reduceAdd, Int.reduceSub, Nat.reduceEqDiff, Nat.reduceLeDiff, Nat.reduceLT, Nat.reduceAdd, reduceCtorEq, Config.encC_all, Config.enc_0, Config.enc_1, Config.enc_10, Config.enc_11, Config.enc_12, Config.enc_13, Config.enc_2, Config.enc_3, Config.enc_4, Config.enc_5, Config.enc_6, Config.enc_7, Config.enc_8, Config.enc_9, Config.enc_all, Config.enc_len, List.getElem?_map, Option.map_some, List.length_map, map_clC, map_nmC, ei64_0, eu8_0, eL_0, e1, e2, e3, e4, e5, e6, e7, e8, e9, e10, e11, e12, g48, g99, g1, g2, h1, h2]
      simp only [spB, spA, h1, h2, if_true, if_false, spV, spNext, clampV]
      all_goals ((repeat' (first | with_reducible rfl | with_reducible contradiction | split)) <;> (first | with_reducible rfl | (simp_all; done) | (simp_all; omega) | omega))
    · simp (maxSteps := 4000000) -implicitDefEqProofs only [↓r98_2, ↓r98_5, ↓r98_6, ↓r98_9,  go_sem, ↓reduceIte, Nat.reduceMul, Int.reduceLT, Int.reduceNeg, Int.reduceEq, Int.reduceLE, Int.reduceAdd, Int.reduceSub, Nat.reduceEqDiff, Nat.reduceLeDiff, Nat.reduceLT, Nat.reduceAdd, reduceCtorEq, Config.encC_all, Config.enc_0, Config.enc_1, Config.enc_10, Config.enc_11, Config.enc_12, Config.enc_13, Config.enc_2, Config.enc_3, Config.enc_4, Config.enc_5, Config.enc_6, Config.enc_7, Config.enc_8, Config.enc_9, Config.enc_all, Config.enc_len, List.getElem?_map, Option.map_some, List.length_map, map_clC, map_nmC, ei64_0, eu8_0, eL_0, e1, e2, e3, e4, e5, e6, e7, e8, e9, e10, e11, e12, g48, g99, g1, g2, h1, h2]
      simp only [spB, spA, h1, h2, if_true, if_false, spV, spNext, clampV]
      all_goals ((repeat' (first | with_reducible rfl | with_reducible contradiction | split)) <;> (first | with_reducible rfl | (simp_all; done) | (simp_all; omega) | omega))
end

end
end Go.Ab
