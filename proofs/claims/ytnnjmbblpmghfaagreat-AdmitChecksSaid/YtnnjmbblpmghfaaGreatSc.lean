/-
  What functions of the program come to.
  Conditions: none.
-/
import Derived.Test.YtnnjmbblpmghfaaGreatSb
set_option linter.unusedSimpArgs false
set_option linter.unusedVariables false
namespace Go.Ab
section
variable {ext : Callee}
theorem ownL_0 {α : Type} {en sz : Nat} {f : α → List D} : ownL en sz f ([] : List α) = .nil sz := rfl
def placesGo : Int → List Tick → List Int
  | _, [] => []
  | a, k :: r => w64 (a + k.v) :: placesGo (w64 (a + k.v)) r
theorem app_ok {n i : Nat} (h : i < n) (hn : n ≤ 4096) (b : Nat) (hb : b ≤ 1000) : ((i + 1) * b ≤ 140737488355328) = True := by
  simp only [eq_iff_iff, iff_true]
  have h1 : (i + 1) * b ≤ 4096 * 1000 := Nat.mul_le_mul (by omega) hb
  omega
set_option maxHeartbeats 4000000 in
theorem l65_0 (l : List Tick) (H : Heap) (hn : l.length ≤ 4096) : ∀ (r : List Tick) (i : Nat) (acc : List Int) (a : Int), l.drop i = r → acc.length = i →
    runL tab ext k65_0 ⟨(upd (upd (upd (upd (upd und 12 (.I i)) 11 (.I l.length)) 10 (VL 11 Tick.enc l)) 4 (.I a)) 3 (.c (ownL 2 1 ei64 acc))), hp H []⟩ =
    some (.exit 0, ⟨(upd und 3 (.c (ownL 2 1 ei64 (acc ++ placesGo a r)))), hp H []⟩)
  | [], i, acc, a, hs, ha => by
    have h0 := dr_end hs
    rw [s65_0, b65_0]
    simp (maxSteps := 4000000) only [ go_sem, ↓reduceIte, Nat.reduceMul, Int.reduceLT, Int.reduceNeg, Int.reduceEq, Int.reduceLE, Int.reduceAdd, Int.reduceSub, Nat.reduceEqDiff, Nat.reduceLeDiff, Nat.reduceLT, Nat.reduceAdd, reduceCtorEq, Tick.enc, Tick.encC_all, Tick.enc_0, Tick.enc_1, Tick.enc_10, Tick.enc_2, Tick.enc_3, Tick.enc_4, Tick.enc_5, Tick.enc_6, Tick.enc_7, Tick.enc_8, Tick.enc_9, Tick.enc_all, Tick.enc_len, Tick.subC_1_2, Tick.subC_5_4, Tick.sub_1_2, Tick.sub_5_4, List.getElem?_map, Option.map_some, List.length_map, map_clC, map_nmC, ei64_0, eu8_0, eL_0, h0]
    simp only [placesGo, kst, List.append_nil]
  | k :: r, i, acc, a, hs, ha => by
    obtain ⟨h1, h2, h3⟩ := dr_cons hs
    have ih := l65_0 l H hn r (i + 1) (acc ++ [w64 (a + k.v)]) (w64 (a + k.v)) h3 (by simp [ha])
    have h4 := dr_lt h2
    have h5 := w64_inc h2 (by omega)
    have h6 := app_ok h2 hn 8 (by omega)
    rw [s65_0, b65_0]
    simp (maxSteps := 4000000) only [ go_sem, ↓reduceIte, Nat.reduceMul, Int.reduceLT, Int.reduceNeg, Int.reduceEq, Int.reduceLE, Int.reduceAdd, Int.reduceSub, Nat.reduceEqDiff, Nat.reduceLeDiff, Nat.reduceLT, Nat.reduceAdd, reduceCtorEq, Tick.enc, Tick.encC_all, Tick.enc_0, Tick.enc_1, Tick.enc_10, Tick.enc_2, Tick.enc_3, Tick.enc_4, Tick.enc_5, Tick.enc_6, Tick.enc_7, Tick.enc_8, Tick.enc_9, Tick.enc_all, Tick.enc_len, Tick.subC_1_2, Tick.subC_5_4, Tick.sub_1_2, Tick.sub_5_4, List.getElem?_map, Option.map_some, List.length_map, map_clC, map_nmC, ei64_0, eu8_0, eL_0, h1, h4, h5, ih, h6, ha]
    simp only [placesGo, kst, List.append_assoc, List.singleton_append]
set_option maxHeartbeats 4000000 in
theorem c65 {H : Heap} (s : Script) (hn : s.ticks.length ≤ 4096) : callL tab ext 65 [.agg ((Script.enc s).map .d)] H = some (VL 1 ei64 (placesGo s.start s.ticks), H) := by
  have hl := fun a => l65_0 (ext := ext) s.ticks (hp H [⟨true, (Script.enc s).map .d⟩]) hn s.ticks 0 [] a rfl rfl
  simp only [nat_0, ownL_0, List.nil_append, hp_hp, List.append_nil] at hl
  rw [cl_65 rfl, B65]
  simp (maxSteps := 4000000) only [ go_sem, ↓reduceIte, Nat.reduceMul, Int.reduceLT, Int.reduceNeg, Int.reduceEq, Int.reduceLE, Int.reduceAdd, Int.reduceSub, Nat.reduceEqDiff, Nat.reduceLeDiff, Nat.reduceLT, Nat.reduceAdd, reduceCtorEq, Script.encC_all, Script.enc_0, Script.enc_1, Script.enc_2, Script.enc_3, Script.enc_4, Script.enc_5, Script.enc_6, Script.enc_7, Script.enc_8, Script.enc_all, Script.enc_len, Script.subC_3_2, Script.subC_5_2, Script.sub_3_2, Script.sub_5_2, List.getElem?_map, Option.map_some, List.length_map, map_clC, map_nmC, ei64_0, eu8_0, eL_0, hl]
def countsGo (p x : Int) (w : Nat) : Int → List Tick → List Int
  | _, [] => []
  | a, k :: r => (rFloor (w64 (a + w64 (w64 (p * k.v) + k.slip w))) 1 x).1 :: countsGo p x w (w64 (a + w64 (w64 (p * k.v) + k.slip w))) r
set_option maxHeartbeats 4000000 in
theorem l66_0 (c : Config) (s : Script) (H : Heap) (w : Nat) (hw : w = 0 ∨ w = 1) (hn : s.ticks.length ≤ 4096) : ∀ (r : List Tick) (i : Nat) (acc : List Int) (a : Int), s.ticks.drop i = r → acc.length = i →
    runL tab ext k66_0 ⟨(upd (upd (upd (upd (upd (upd (upd (upd und 20 (.I i)) 19 (.I s.ticks.length)) 18 (VL 11 Tick.enc s.ticks)) 8 (.I a)) 7 (.c (ownL 2 1 ei64 acc))) 4 (.c (.ptr (pid H 1) 0))) 3 (.c (.ptr (pid H 0) 0))) 2 (.I w)), hp H [⟨true, (Script.enc s).map .d⟩, ⟨true, (Config.enc c).map .d⟩]⟩ =
    some (.exit 0, ⟨(upd und 7 (.c (ownL 2 1 ei64 (acc ++ countsGo c.pulses (s.circ w) w a r)))), hp H [⟨true, (Script.enc s).map .d⟩, ⟨true, (Config.enc c).map .d⟩]⟩)
  | [], i, acc, a, hs, ha => by
    have h0 := dr_end hs
    rw [s66_0, b66_0]
    simp (maxSteps := 4000000) only [↓r66_6,  go_sem, ↓reduceIte, Nat.reduceMul, Int.reduceLT, Int.reduceNeg, Int.reduceEq, Int.reduceLE, Int.reduceAdd, Int.reduceSub, Nat.reduceEqDiff, Nat.reduceLeDiff, Nat.reduceLT, Nat.reduceAdd, reduceCtorEq, Tick.enc, Tick.encC_all, Tick.enc_0, Tick.enc_1, Tick.enc_10, Tick.enc_2, Tick.enc_3, Tick.enc_4, Tick.enc_5, Tick.enc_6, Tick.enc_7, Tick.enc_8, Tick.enc_9, Tick.enc_all, Tick.enc_len, Tick.subC_1_2, Tick.subC_5_4, Tick.sub_1_2, Tick.sub_5_4, List.getElem?_map, Option.map_some, List.length_map, map_clC, map_nmC, ei64_0, eu8_0, eL_0, h0]
    simp only [countsGo, kst, List.append_nil]
  | k :: r, i, acc, a, hs, ha => by
    obtain ⟨h1, h2, h3⟩ := dr_cons hs
    have ih := l66_0 c s H w hw hn r (i + 1) (acc ++ [(rFloor (w64 (a + w64 (w64 (c.pulses * k.v) + k.slip w))) 1 (s.circ w)).1]) (w64 (a + w64 (w64 (c.pulses * k.v) + k.slip w))) h3 (by simp [ha])
    have h4 := dr_lt h2
    have h5 := w64_inc h2 (by omega)
    have h6 := app_ok h2 hn 8 (by omega)
    simp only [rFloor] at ih
    rw [s66_0, b66_0]
    rcases hw with rfl | rfl
    · simp only [nat_0] at ih ⊢
      simp (maxSteps := 4000000) only [↓r66_6,  go_sem, ↓reduceIte, Nat.reduceMul, Int.reduceLT, Int.reduceNeg, Int.reduceEq, Int.reduceLE, Int.reduceAdd, Int.reduceSub, Nat.reduceEqDiff, Nat.reduceLeDiff, Nat.reduceLT, Nat.reduceAdd, reduceCtorEq, Tick.enc, Tick.encC_all, Tick.enc_0, Tick.enc_1, Tick.enc_10, Tick.enc_2, Tick.enc_3, Tick.enc_4, Tick.enc_5, Tick.enc_6, Tick.enc_7, Tick.enc_8, Tick.enc_9, Tick.enc_all, Tick.enc_len, Tick.subC_1_2, Tick.subC_5_4, Tick.sub_1_2, Tick.sub_5_4, Script.encC_all, Script.enc_0, Script.enc_1, Script.enc_2, Script.enc_3, Script.enc_4, Script.enc_5, Script.enc_6, Script.enc_7, Script.enc_8, Script.enc_all, Script.enc_len, Script.subC_3_2, Script.subC_5_2, Script.sub_3_2, Script.sub_5_2, Config.encC_all, Config.enc_0, Config.enc_1, Config.enc_10, Config.enc_11, Config.enc_12, Config.enc_13, Config.enc_2, Config.enc_3, Config.enc_4, Config.enc_5, Config.enc_6, Config.enc_7, Config.enc_8, Config.enc_9, Config.enc_all, Config.enc_len, List.getElem?_map, Option.map_some, List.length_map, map_clC, map_nmC, ei64_0, eu8_0, eL_0, h1, h4, h5, h6, ha, c111, ih]
      simp only [countsGo, rFloor, kst, List.append_assoc, List.singleton_append]
    · simp only [nat_1] at ih ⊢
      simp (maxSteps := 4000000) only [↓r66_6,  go_sem, ↓reduceIte, Nat.reduceMul, Int.reduceLT, Int.reduceNeg, Int.reduceEq, Int.reduceLE, Int.reduceAdd, Int.reduceSub, Nat.reduceEqDiff, Nat.reduceLeDiff, Nat.reduceLT, Nat.reduceAdd, reduceCtorEq, Tick.enc, Tick.encC_all, Tick.enc_0, Tick.enc_1, Tick.enc_10, Tick.enc_2, Tick.enc_3, Tick.enc_4, Tick.enc_5, Tick.enc_6, Tick.enc_7, Tick.enc_8, Tick.enc_9, Tick.enc_all, Tick.enc_len, Tick.subC_1_2, Tick.subC_5_4, Tick.sub_1_2, Tick.sub_5_4, Script.encC_all, Script.enc_0, Script.enc_1, Script.enc_2, Script.enc_3, Script.enc_4, Script.enc_5, Script.enc_6, Script.enc_7, Script.enc_8, Script.enc_all, Script.enc_len, Script.subC_3_2, Script.subC_5_2, Script.sub_3_2, Script.sub_5_2, Config.encC_all, Config.enc_0, Config.enc_1, Config.enc_10, Config.enc_11, Config.enc_12, Config.enc_13, Config.enc_2, Config.enc_3, Config.enc_4, Config.enc_5, Config.enc_6, Config.enc_7, Config.enc_8, Config.enc_9, Config.enc_all, Config.enc_len, List.getElem?_map, Option.map_some, List.length_map, map_clC, map_nmC, ei64_0, eu8_0, eL_0, h1, h4, h5, h6, ha, c111, ih]
      simp only [countsGo, rFloor, kst, List.append_assoc, List.singleton_append]
def counts (c : Config) (s : Script) (w : Nat) : List Int := countsGo c.pulses (s.circ w) w (s.phase w) s.ticks
set_option maxHeartbeats 4000000 in
theorem c66_0 {H : Heap} (c : Config) (s : Script) (hn : s.ticks.length ≤ 4096) : callL tab ext 66 [.agg ((Script.enc s).map .d), .agg ((Config.enc c).map .d), .I 0] H = some (VL 1 ei64 (counts c s 0), H) := by
  have hl := fun a => l66_0 (ext := ext) c s H 0 (Or.inl rfl) hn s.ticks 0 [] a rfl rfl
  simp only [nat_0, ownL_0, List.nil_append] at hl
  rw [cl_66 rfl, B66]
  simp (maxSteps := 4000000) only [↓r66_6,  go_sem, ↓reduceIte, Nat.reduceMul, Int.reduceLT, Int.reduceNeg, Int.reduceEq, Int.reduceLE, Int.reduceAdd, Int.reduceSub, Nat.reduceEqDiff, Nat.reduceLeDiff, Nat.reduceLT, Nat.reduceAdd, reduceCtorEq, Script.encC_all, Script.enc_0, Script.enc_1, Script.enc_2, Script.enc_3, Script.enc_4, Script.enc_5, Script.enc_6, Script.enc_7, Script.enc_8, Script.enc_all, Script.enc_len, Script.subC_3_2, Script.subC_5_2, Script.sub_3_2, Script.sub_5_2, Config.encC_all, Config.enc_0, Config.enc_1, Config.enc_10, Config.enc_11, Config.enc_12, Config.enc_13, Config.enc_2, Config.enc_3, Config.enc_4, Config.enc_5, Config.enc_6, Config.enc_7, Config.enc_8, Config.enc_9, Config.enc_all, Config.enc_len, List.getElem?_map, Option.map_some, List.length_map, map_clC, map_nmC, ei64_0, eu8_0, eL_0, hl]
  simp only [counts]
set_option maxHeartbeats 4000000 in
theorem c66_1 {H : Heap} (c : Config) (s : Script) (hn : s.ticks.length ≤ 4096) : callL tab ext 66 [.agg ((Script.enc s).map .d), .agg ((Config.enc c).map .d), .I 1] H = some (VL 1 ei64 (counts c s 1), H) := by
  have hl := fun a => l66_0 (ext := ext) c s H 1 (Or.inr rfl) hn s.ticks 0 [] a rfl rfl
  simp only [nat_0, nat_1, ownL_0, List.nil_append] at hl
  rw [cl_66 rfl, B66]
  simp (maxSteps := 4000000) only [↓r66_6,  go_sem, ↓reduceIte, Nat.reduceMul, Int.reduceLT, Int.reduceNeg, Int.reduceEq, Int.reduceLE, Int.reduceAdd, Int.reduceSub, Nat.reduceEqDiff, Nat.reduceLeDiff, Nat.reduceLT, Nat.reduceAdd, reduceCtorEq, Script.encC_all, Script.enc_0, Script.enc_1, Script.enc_2, Script.enc_3, Script.enc_4, Script.enc_5, Script.enc_6, Script.enc_7, Script.enc_8, Script.enc_all, Script.enc_len, Script.subC_3_2, Script.subC_5_2, Script.sub_3_2, Script.sub_5_2, Config.encC_all, Config.enc_0, Config.enc_1, Config.enc_10, Config.enc_11, Config.enc_12, Config.enc_13, Config.enc_2, Config.enc_3, Config.enc_4, Config.enc_5, Config.enc_6, Config.enc_7, Config.enc_8, Config.enc_9, Config.enc_all, Config.enc_len, List.getElem?_map, Option.map_some, List.length_map, map_clC, map_nmC, ei64_0, eu8_0, eL_0, hl]
  simp only [counts]
def fitS (y : Tick) (q : Option Tick) (i : Nat) : Bool := if i = 2 then !(y.lost 2) else match q with
  | none => false
  | some z => if y.lost i = true then false else !(z.lost i)
set_option maxHeartbeats 4000000 in
theorem c151 {H : Heap} {j : Nat} (c : Config) (t : Track) (s : Script) (tl : List C) (i k : Nat) (y : Tick) (q : Option Tick) (hi : i = 0 ∨ i = 1 ∨ i = 2) (hy : s.ticks[k]? = some y) (hq : q = prevOf s.ticks k) (hn : s.ticks.length ≤ 4096) (hH : H[j]? = some ⟨true, AJ c t s tl⟩) : callL tab ext 151 [.c (.ptr j 0), .I i, .I k] H = some (.B (fitS y q i), H) := by
  subst hq
  rw [cl_151 rfl, B151]
  have hk : k < s.ticks.length := (List.getElem?_eq_some_iff.1 hy).1
  cases k with
  | zero =>
    rcases hi with rfl | rfl | rfl <;> simp only [nat_0, nat_1, nat_2] <;>
      simp (maxSteps := 4000000) only [ go_sem, ↓reduceIte, Nat.reduceMul, Int.reduceLT, Int.reduceNeg, Int.reduceEq, Int.reduceLE, Int.reduceAdd, Int.reduceSub, Nat.reduceEqDiff, Nat.reduceLeDiff, Nat.reduceLT, Nat.reduceAdd, reduceCtorEq, Tick.encC_all, Tick.enc_0, Tick.enc_1, Tick.enc_10, Tick.enc_2, Tick.enc_3, Tick.enc_4, Tick.enc_5, Tick.enc_6, Tick.enc_7, Tick.enc_8, Tick.enc_9, Tick.enc_all, Tick.enc_len, Tick.subC_1_2, Tick.subC_5_4, Tick.sub_1_2, Tick.sub_5_4, List.getElem?_map, Option.map_some, List.length_map, map_clC, map_nmC, ei64_0, eu8_0, eL_0, hy, hp_old hH] <;>
      simp only [fitS, prevOf] <;> all_goals ((repeat' (first | with_reducible rfl | with_reducible contradiction | split)) <;> (first | with_reducible rfl | (simp_all; done) | (simp_all; omega) | omega))
  | succ m =>
    obtain ⟨z, hz⟩ := get_ex (l := s.ticks) (n := m) (by omega)
    have h6 := w64_dec (n := s.ticks.length) (j := m) hk (by omega)
    rcases hi with rfl | rfl | rfl <;> simp only [nat_0, nat_1, nat_2] <;>
      simp (maxSteps := 4000000) only [ go_sem, ↓reduceIte, Nat.reduceMul, Int.reduceLT, Int.reduceNeg, Int.reduceEq, Int.reduceLE, Int.reduceAdd, Int.reduceSub, Nat.reduceEqDiff, Nat.reduceLeDiff, Nat.reduceLT, Nat.reduceAdd, reduceCtorEq, Tick.encC_all, Tick.enc_0, Tick.enc_1, Tick.enc_10, Tick.enc_2, Tick.enc_3, Tick.enc_4, Tick.enc_5, Tick.enc_6, Tick.enc_7, Tick.enc_8, Tick.enc_9, Tick.enc_all, Tick.enc_len, Tick.subC_1_2, Tick.subC_5_4, Tick.sub_1_2, Tick.sub_5_4, List.getElem?_map, Option.map_some, List.length_map, map_clC, map_nmC, ei64_0, eu8_0, eL_0, hy, hz, h6, pos_succ, hp_old hH] <;>
      simp only [fitS, prevOf, hz] <;> all_goals ((repeat' (first | with_reducible rfl | with_reducible contradiction | split)) <;> (first | with_reducible rfl | (simp_all; done) | (simp_all; omega) | omega))
def wrongS (c : Config) (y : Tick) (i : Nat) : Bool := if i = 2 then !(within y.rad (cfgErr c (w64 (y.v + y.rad)))) else decide (¬ y.slip i = 0)
set_option maxHeartbeats 4000000 in
theorem c153 {H : Heap} {j : Nat} (c : Config) (t : Track) (s : Script) (tl : List C) (i k : Nat) (y : Tick) (hi : i = 0 ∨ i = 1 ∨ i = 2) (hy : s.ticks[k]? = some y) (hH : H[j]? = some ⟨true, AJ c t s tl⟩) : callL tab ext 153 [.c (.ptr j 0), .I i, .I k] H = some (.B (wrongS c y i), H) := by
  rw [cl_153 rfl, B153]
  rcases hi with rfl | rfl | rfl <;> simp only [nat_0, nat_1, nat_2] <;>
    simp (maxSteps := 4000000) only [↓r153_3,  go_sem, ↓reduceIte, Nat.reduceMul, Int.reduceLT, Int.reduceNeg, Int.reduceEq, Int.reduceLE, Int.reduceAdd, Int.reduceSub, Nat.reduceEqDiff, Nat.reduceLeDiff, Nat.reduceLT, Nat.reduceAdd, reduceCtorEq, Tick.enc, Tick.encC_all, Tick.enc_0, Tick.enc_1, Tick.enc_10, Tick.enc_2, Tick.enc_3, Tick.enc_4, Tick.enc_5, Tick.enc_6, Tick.enc_7, Tick.enc_8, Tick.enc_9, Tick.enc_all, Tick.enc_len, Tick.subC_1_2, Tick.subC_5_4, Tick.sub_1_2, Tick.sub_5_4, List.getElem?_map, Option.map_some, List.length_map, map_clC, map_nmC, ei64_0, eu8_0, eL_0, hy, hp_old hH, c225, c109] <;>
    simp only [wrongS] <;> all_goals ((repeat' (first | with_reducible rfl | with_reducible contradiction | split)) <;> (first | with_reducible rfl | (simp_all; done) | (simp_all; omega) | omega))

end
end Go.Ab
namespace Go.Ab
section
variable {ext : Callee}
def pulseDelta (a b : Int) : Int := w64 (IntKind.i16.wrap (IntKind.u16.wrap (IntKind.u16.wrap b - IntKind.u16.wrap a)))
set_option maxHeartbeats 4000000 in
theorem a152_5 {j : Nat} (E : Env) (H : Heap) (c : Config) (t : Track) (s : Script) (tl : List C) (b0 b1 : Box) (d : Int) (h0 : E 0 = .c (.ptr j 0)) (h8 : E 8 = .I d) (hH : H[j]? = some ⟨true, AJ c t s tl⟩) :
    runL tab ext (.dreg d152_5) ⟨E, hp H [b0, b1]⟩ = some (.normal, ⟨(upd (upd (upd (upd (upd (upd (upd (upd (upd (upd (upd (upd (upd (upd (upd (upd (upd E 54 (.I d)) 55 (.c (.ptr j 0))) 56 (.c (.ptr j 0))) 57 (.c (.ptr j 0))) 58 (.agg ((Config.enc c).map .d))) 59 (.agg [J c.circLo, J c.circHi])) 60 (.c (.ptr j 0))) 61 (.c (.ptr j 0))) 62 (.c (.ptr j 0))) 63 (.c (.ptr j 0))) 64 (.I c.pulses)) 65 (.tup [.agg [J (tacho d ⟨c.circLo, c.circHi⟩ c.pulses).1.lo, J (tacho d ⟨c.circLo, c.circHi⟩ c.pulses).1.hi], .I (tacho d ⟨c.circLo, c.circHi⟩ c.pulses).2])) 53 (.tup [.agg [J (tacho d ⟨c.circLo, c.circHi⟩ c.pulses).1.lo, J (tacho d ⟨c.circLo, c.circHi⟩ c.pulses).1.hi], .I (tacho d ⟨c.circLo, c.circHi⟩ c.pulses).2])) 66 (.agg [J (tacho d ⟨c.circLo, c.circHi⟩ c.pulses).1.lo, J (tacho d ⟨c.circLo, c.circHi⟩ c.pulses).1.hi])) 67 (.I (tacho d ⟨c.circLo, c.circHi⟩ c.pulses).2)) 9 (.c (.ptr (pid H 2) 0))) 10 (.I (tacho d ⟨c.circLo, c.circHi⟩ c.pulses).2)), hp H [b0, b1, ⟨true, [J (tacho d ⟨c.circLo, c.circHi⟩ c.pulses).1.lo, J (tacho d ⟨c.circLo, c.circHi⟩ c.pulses).1.hi]⟩]⟩) := by
  have he : effs d152_5 = [15, 16] := by decide
  have hi : insF [15, 16] [] 15 = [15] := by decide
  have hi2 : insF [15, 16] [15] 16 = [15, 16] := by decide
  obtain ⟨hv, v0, v1, v2⟩ : ∃ hv : List Nat → Heap, hv [] = hp H [b0, b1] ∧ hv [15] = hp H [b0, b1, ⟨true, [J 0, J 0]⟩] ∧ hv [15, 16] = hp H [b0, b1, ⟨true, [J (tacho d ⟨c.circLo, c.circHi⟩ c.pulses).1.lo, J (tacho d ⟨c.circLo, c.circHi⟩ c.pulses).1.hi]⟩] :=
    ⟨fun F => match F.length with
      | 0 => hp H [b0, b1]
      | 1 => hp H [b0, b1, ⟨true, [J 0, J 0]⟩]
      | _ => hp H [b0, b1, ⟨true, [J (tacho d ⟨c.circLo, c.circHi⟩ c.pulses).1.lo, J (tacho d ⟨c.circLo, c.circHi⟩ c.pulses).1.hi]⟩], rfl, rfl, rfl⟩
  have h := runL_any (fns := tab) (ext := ext) (items := d152_5) (s := ⟨E, hp H [b0, b1]⟩)
    (e' := (upd (upd (upd (upd (upd (upd (upd (upd (upd (upd (upd (upd (upd (upd (upd (upd (upd E 54 (.I d)) 55 (.c (.ptr j 0))) 56 (.c (.ptr j 0))) 57 (.c (.ptr j 0))) 58 (.agg ((Config.enc c).map .d))) 59 (.agg [J c.circLo, J c.circHi])) 60 (.c (.ptr j 0))) 61 (.c (.ptr j 0))) 62 (.c (.ptr j 0))) 63 (.c (.ptr j 0))) 64 (.I c.pulses)) 65 (.tup [.agg [J (tacho d ⟨c.circLo, c.circHi⟩ c.pulses).1.lo, J (tacho d ⟨c.circLo, c.circHi⟩ c.pulses).1.hi], .I (tacho d ⟨c.circLo, c.circHi⟩ c.pulses).2])) 53 (.tup [.agg [J (tacho d ⟨c.circLo, c.circHi⟩ c.pulses).1.lo, J (tacho d ⟨c.circLo, c.circHi⟩ c.pulses).1.hi], .I (tacho d ⟨c.circLo, c.circHi⟩ c.pulses).2])) 66 (.agg [J (tacho d ⟨c.circLo, c.circHi⟩ c.pulses).1.lo, J (tacho d ⟨c.circLo, c.circHi⟩ c.pulses).1.hi])) 67 (.I (tacho d ⟨c.circLo, c.circHi⟩ c.pulses).2)) 9 (.c (.ptr (pid H 2) 0))) 10 (.I (tacho d ⟨c.circLo, c.circHi⟩ c.pulses).2))) r152_5 (by decide) hv v0 ?_ ?_
  · rw [h, he, v2]
  · rw [he]
    unfold d152_5
    simp only [runE, List.headD_cons, go_sem, ↓reduceIte, Nat.reduceMul, Int.reduceLT, Int.reduceNeg, Int.reduceEq, Int.reduceLE, Int.reduceAdd, Int.reduceSub, Nat.reduceEqDiff, Nat.reduceLeDiff, Nat.reduceLT, Nat.reduceAdd, reduceCtorEq, Span.enc, Span.encC_all, Span.enc_0, Span.enc_1, Span.enc_all, Span.enc_len, List.getElem?_map, Option.map_some, List.length_map, map_clC, map_nmC, ei64_0, eu8_0, eL_0, h0, h8, hi, hi2, v0, v1, v2, c110, c224, hp_old hH, List.mem_cons, List.not_mem_nil, or_false, forall_eq, forall_eq_or_imp, if_true, if_false, and_true, and_self]
  · rw [he, v2]
    unfold d152_5
    simp only [List.map_cons, List.map_nil, go_sem, ↓reduceIte, Nat.reduceMul, Int.reduceLT, Int.reduceNeg, Int.reduceEq, Int.reduceLE, Int.reduceAdd, Int.reduceSub, Nat.reduceEqDiff, Nat.reduceLeDiff, Nat.reduceLT, Nat.reduceAdd, reduceCtorEq, Span.enc, Span.encC_all, Span.enc_0, Span.enc_1, Span.enc_all, Span.enc_len, List.getElem?_map, Option.map_some, List.length_map, map_clC, map_nmC, ei64_0, eu8_0, eL_0, h0, h8, c110, c224, hp_old hH]
def saysT (c : Config) (a b : Int) : Span := (tacho (pulseDelta a b) ⟨c.circLo, c.circHi⟩ c.pulses).1
def saysR (c : Config) (y : Tick) : Span := (spanGrow ⟨w64 (y.v + y.rad), w64 (y.v + y.rad)⟩ (cfgErr c (w64 (y.v + y.rad)))).1
abbrev AJT (pl c0 c1 : List Int) : List C := [.d (.l 1 (pl.map ei64)), .d (.l 1 (c0.map ei64)), .d (.l 1 (c1.map ei64))]
set_option maxHeartbeats 4000000 in
theorem c152_2 {H : Heap} {j : Nat} (c : Config) (t : Track) (s : Script) (tl : List C) (k : Nat) (y : Tick) (hy : s.ticks[k]? = some y) (hH : H[j]? = some ⟨true, AJ c t s tl⟩) : callL tab ext 152 [.c (.ptr j 0), .I 2, .I k] H = some (.agg [J (saysR c y).lo, J (saysR c y).hi], H) := by
  rw [cl_152 rfl, B152]
  simp (maxSteps := 4000000) only [↓r152_3, ↓r152_4,  go_sem, ↓reduceIte, Nat.reduceMul, Int.reduceLT, Int.reduceNeg, Int.reduceEq, Int.reduceLE, Int.reduceAdd, Int.reduceSub, Nat.reduceEqDiff, Nat.reduceLeDiff, Nat.reduceLT, Nat.reduceAdd, reduceCtorEq, Tick.enc, Tick.encC_all, Tick.enc_0, Tick.enc_1, Tick.enc_10, Tick.enc_2, Tick.enc_3, Tick.enc_4, Tick.enc_5, Tick.enc_6, Tick.enc_7, Tick.enc_8, Tick.enc_9, Tick.enc_all, Tick.enc_len, Tick.subC_1_2, Tick.subC_5_4, Tick.sub_1_2, Tick.sub_5_4, Span.enc, Span.encC_all, Span.enc_0, Span.enc_1, Span.enc_all, Span.enc_len, List.getElem?_map, Option.map_some, List.length_map, map_clC, map_nmC, ei64_0, eu8_0, eL_0, hy, hp_old hH, c215]
  simp only [saysR]
set_option maxHeartbeats 4000000 in
theorem c152_t {H : Heap} {j : Nat} (c : Config) (t : Track) (s : Script) (pl c0 c1 : List Int) (i m : Nat) (y : Tick) (a b : Int) (hi : i = 0 ∧ c0[m]? = some a ∧ c0[m + 1]? = some b ∨ i = 1 ∧ c1[m]? = some a ∧ c1[m + 1]? = some b) (hy : s.ticks[m + 1]? = some y) (hn : s.ticks.length ≤ 4096) (hH : H[j]? = some ⟨true, AJ c t s (AJT pl c0 c1)⟩) : callL tab ext 152 [.c (.ptr j 0), .I i, .I ((m + 1 : Nat) : Int)] H = some (.agg [J (saysT c a b).lo, J (saysT c a b).hi], H) := by
  have hk : m + 1 < s.ticks.length := (List.getElem?_eq_some_iff.1 hy).1
  have h6 := w64_dec (n := s.ticks.length) (j := m) hk (by omega)
  have ha := fun E b0 b1 d h0 h8 => a152_5 (ext := ext) E H c t s (AJT pl c0 c1) b0 b1 d h0 h8 hH
  rw [cl_152 rfl, B152]
  rcases hi with ⟨rfl, g1, g2⟩ | ⟨rfl, g1, g2⟩
  · simp only [nat_0]
    simp (maxSteps := 4000000) only [↓r152_3, ↓r152_4,  go_sem, ↓reduceIte, Nat.reduceMul, Int.reduceLT, Int.reduceNeg, Int.reduceEq, Int.reduceLE, Int.reduceAdd, Int.reduceSub, Nat.reduceEqDiff, Nat.reduceLeDiff, Nat.reduceLT, Nat.reduceAdd, reduceCtorEq, Tick.enc, Tick.encC_all, Tick.enc_0, Tick.enc_1, Tick.enc_10, Tick.enc_2, Tick.enc_3, Tick.enc_4, Tick.enc_5, Tick.enc_6, Tick.enc_7, Tick.enc_8, Tick.enc_9, Tick.enc_all, Tick.enc_len, Tick.subC_1_2, Tick.subC_5_4, Tick.sub_1_2, Tick.sub_5_4, Span.enc, Span.encC_all, Span.enc_0, Span.enc_1, Span.enc_all, Span.enc_len, List.getElem?_map, Option.map_some, List.length_map, map_clC, map_nmC, ei64_0, eu8_0, eL_0, hy, h6, g1, g2, hp_old hH, c223]
    rw [ha _ _ _ _ rfl rfl]
    simp (maxSteps := 4000000) only [go_sem, ↓reduceIte, Nat.reduceMul, Int.reduceLT, Int.reduceNeg, Int.reduceEq, Int.reduceLE, Int.reduceAdd, Int.reduceSub, Nat.reduceEqDiff, Nat.reduceLeDiff, Nat.reduceLT, Nat.reduceAdd, reduceCtorEq, Span.enc, Span.encC_all, Span.enc_0, Span.enc_1, Span.enc_all, Span.enc_len, List.getElem?_map, Option.map_some, List.length_map, map_clC, map_nmC, ei64_0, eu8_0, eL_0]
    simp only [saysT, pulseDelta]
  · simp only [nat_1]
    simp (maxSteps := 4000000) only [↓r152_3, ↓r152_4,  go_sem, ↓reduceIte, Nat.reduceMul, Int.reduceLT, Int.reduceNeg, Int.reduceEq, Int.reduceLE, Int.reduceAdd, Int.reduceSub, Nat.reduceEqDiff, Nat.reduceLeDiff, Nat.reduceLT, Nat.reduceAdd, reduceCtorEq, Tick.enc, Tick.encC_all, Tick.enc_0, Tick.enc_1, Tick.enc_10, Tick.enc_2, Tick.enc_3, Tick.enc_4, Tick.enc_5, Tick.enc_6, Tick.enc_7, Tick.enc_8, Tick.enc_9, Tick.enc_all, Tick.enc_len, Tick.subC_1_2, Tick.subC_5_4, Tick.sub_1_2, Tick.sub_5_4, Span.enc, Span.encC_all, Span.enc_0, Span.enc_1, Span.enc_all, Span.enc_len, List.getElem?_map, Option.map_some, List.length_map, map_clC, map_nmC, ei64_0, eu8_0, eL_0, hy, h6, g1, g2, hp_old hH, c223]
    rw [ha _ _ _ _ rfl rfl]
    simp (maxSteps := 4000000) only [go_sem, ↓reduceIte, Nat.reduceMul, Int.reduceLT, Int.reduceNeg, Int.reduceEq, Int.reduceLE, Int.reduceAdd, Int.reduceSub, Nat.reduceEqDiff, Nat.reduceLeDiff, Nat.reduceLT, Nat.reduceAdd, reduceCtorEq, Span.enc, Span.encC_all, Span.enc_0, Span.enc_1, Span.enc_all, Span.enc_len, List.getElem?_map, Option.map_some, List.length_map, map_clC, map_nmC, ei64_0, eu8_0, eL_0]
    simp only [saysT, pulseDelta]

end
end Go.Ab
namespace Go.Ab
section
variable {ext : Callee}
def meet (a b : Span) : Span × Bool := spanBoth (if b.lo > a.lo then b.lo else a.lo) true (if b.hi < a.hi then b.hi else a.hi) true
def commonGo : Span → List Span → Span × Bool
  | m, [] => (m, true)
  | m, k :: r => if (meet m k).2 = true then commonGo (meet m k).1 r else ((meet m k).1, false)
set_option maxHeartbeats 4000000 in
theorem l154_0 (l : List Span) (H : Heap) (hn : l.length < 2 ^ 63) : ∀ (r : List Span) (i : Nat) (a b : Int), l.drop i = r →
    runL tab ext k154_0 ⟨(upd (upd (upd (upd (upd und 17 (.I i)) 16 (.I l.length)) 15 (VL 2 Span.enc l)) 4 (.c (.ptr (pid H 1) 0))) 2 (.c (.ptr (pid H 0) 0))), hp H [⟨true, [J 0, J 0]⟩, ⟨true, [J a, J b]⟩]⟩ =
    if (commonGo ⟨a, b⟩ r).2 = true then some (.exit 0, ⟨(upd (upd und 4 (.c (.ptr (pid H 1) 0))) 2 (.c (.ptr (pid H 0) 0))), hp H [⟨true, [J 0, J 0]⟩, ⟨true, [J (commonGo ⟨a, b⟩ r).1.lo, J (commonGo ⟨a, b⟩ r).1.hi]⟩]⟩)
    else some (.ret, ⟨(upd (upd und 3 (.B false)) 2 (.c (.ptr (pid H 0) 0))), hp H [⟨true, [J 0, J 0]⟩, ⟨true, [J (commonGo ⟨a, b⟩ r).1.lo, J (commonGo ⟨a, b⟩ r).1.hi]⟩]⟩)
  | [], i, a, b, hs => by
    have h0 := dr_end hs
    rw [s154_0, b154_0]
    simp (maxSteps := 4000000) only [ go_sem, ↓reduceIte, Nat.reduceMul, Int.reduceLT, Int.reduceNeg, Int.reduceEq, Int.reduceLE, Int.reduceAdd, Int.reduceSub, Nat.reduceEqDiff, Nat.reduceLeDiff, Nat.reduceLT, Nat.reduceAdd, reduceCtorEq, Span.enc, Span.encC_all, Span.enc_0, Span.enc_1, Span.enc_all, Span.enc_len, List.getElem?_map, Option.map_some, List.length_map, map_clC, map_nmC, ei64_0, eu8_0, eL_0, h0]
    simp only [commonGo, kst, if_true]
  | k :: r, i, a, b, hs => by
    obtain ⟨h1, h2, h3⟩ := dr_cons hs
    have ih := fun a b => l154_0 l H hn r (i + 1) a b h3
    have h4 := dr_lt h2
    have h5 := w64_inc h2 hn
    have hm := fun H => c226 (ext := ext) (H := H) a b k.lo k.hi
    rw [show spanBoth (if k.lo > a then k.lo else a) true (if k.hi < b then k.hi else b) true = meet ⟨a, b⟩ k from rfl] at hm
    rw [s154_0, b154_0]
    simp (maxSteps := 4000000) only [ go_sem, ↓reduceIte, Nat.reduceMul, Int.reduceLT, Int.reduceNeg, Int.reduceEq, Int.reduceLE, Int.reduceAdd, Int.reduceSub, Nat.reduceEqDiff, Nat.reduceLeDiff, Nat.reduceLT, Nat.reduceAdd, reduceCtorEq, Span.enc, Span.encC_all, Span.enc_0, Span.enc_1, Span.enc_all, Span.enc_len, List.getElem?_map, Option.map_some, List.length_map, map_clC, map_nmC, ei64_0, eu8_0, eL_0, h1, h4, h5, ih, hm]
    simp only [commonGo, kst]
    by_cases h : (meet ⟨a, b⟩ k).2 = true
    · simp only [if_pos h, Span.eta]
      simp [h]
    · simp [h]
def common : List Span → Span × Bool
  | [] => (⟨0, 0⟩, false)
  | m :: r => if (commonGo m (m :: r)).2 = true then ((commonGo m (m :: r)).1, true) else (⟨0, 0⟩, false)
set_option maxHeartbeats 4000000 in
theorem c154 {H : Heap} (l : List Span) (hn : l.length < 2 ^ 63) : callL tab ext 154 [VL 2 Span.enc l] H = some (.tup [.agg [J (common l).1.lo, J (common l).1.hi], .B (common l).2], H) := by
  rw [cl_154 rfl, B154]
  cases l with
  | nil => simp (maxSteps := 4000000) only [go_sem, ↓reduceIte, Nat.reduceMul, Int.reduceLT, Int.reduceNeg, Int.reduceEq, Int.reduceLE, Int.reduceAdd, Int.reduceSub, Nat.reduceEqDiff, Nat.reduceLeDiff, Nat.reduceLT, Nat.reduceAdd, reduceCtorEq, Span.enc, Span.encC_all, Span.enc_0, Span.enc_1, Span.enc_all, Span.enc_len, List.getElem?_map, Option.map_some, List.length_map, map_clC, map_nmC, ei64_0, eu8_0, eL_0, common]
  | cons m r =>
    have h1 : ((((m :: r).length : Nat) : Int) = 0) = False := by simp; omega
    have h2 : (m :: r)[0]? = some m := rfl
    have hl := l154_0 (ext := ext) (m :: r) H hn (m :: r) 0 m.lo m.hi rfl
    simp only [nat_0, Span.eta] at hl
    simp only [common]
    generalize hg : m :: r = l at *
    simp (maxSteps := 4000000) only [go_sem, ↓reduceIte, Nat.reduceMul, Int.reduceLT, Int.reduceNeg, Int.reduceEq, Int.reduceLE, Int.reduceAdd, Int.reduceSub, Nat.reduceEqDiff, Nat.reduceLeDiff, Nat.reduceLT, Nat.reduceAdd, reduceCtorEq, Span.enc, Span.encC_all, Span.enc_0, Span.enc_1, Span.enc_all, Span.enc_len, List.getElem?_map, Option.map_some, List.length_map, map_clC, map_nmC, ei64_0, eu8_0, eL_0, h1, h2, hl]
    by_cases h : (commonGo m l).2 = true <;> simp [h]
def senStep (f w : Bool) (sp : Span) (x : List Span × Int) : List Span × Int := if f = true then (x.1 ++ [sp], if w = true then w64 (x.2 + 1) else x.2) else x
abbrev R112 (H : Heap) (x : List Span × Int) : Option (Ex × St) := some (.exit 0, ⟨(upd (upd und 6 (.I x.2)) 5 (.c (ownL 63 2 Span.enc x.1))), hp H []⟩)
set_option maxHeartbeats 4000000 in
theorem l112_3 {j : Nat} (k : Int) (l : List Span) (w : Int) (H : Heap) : runL tab ext k112_0 ⟨(upd (upd (upd (upd (upd und 10 (.I 3)) 6 (.I w)) 5 (.c (ownL 63 2 Span.enc l))) 1 (.I k)) 0 (.c (.ptr j 0))), hp H []⟩ = R112 H (l, w) := by
  rw [s112_0, b112_0]
  simp (maxSteps := 4000000) only [ go_sem, ↓reduceIte, Nat.reduceMul, Int.reduceLT, Int.reduceNeg, Int.reduceEq, Int.reduceLE, Int.reduceAdd, Int.reduceSub, Nat.reduceEqDiff, Nat.reduceLeDiff, Nat.reduceLT, Nat.reduceAdd, reduceCtorEq, Span.enc, Span.encC_all, Span.enc_0, Span.enc_1, Span.enc_all, Span.enc_len, List.getElem?_map, Option.map_some, List.length_map, map_clC, map_nmC, ei64_0, eu8_0, eL_0]
  simp only [kst]
set_option maxHeartbeats 4000000 in
theorem l112_s {j : Nat} (k : Int) (i : Nat) (hi : i = 0 ∨ i = 1 ∨ i = 2) (f wr : Bool) (sp : Span) (F : List Span × Int → List Span × Int) (H : Heap)
    (hf : ∀ H', callL tab ext 151 [.c (.ptr j 0), .I i, .I k] (hp H H') = some (.B f, hp H H'))
    (hsy : f = true → ∀ H', callL tab ext 152 [.c (.ptr j 0), .I i, .I k] (hp H H') = some (.agg [J sp.lo, J sp.hi], hp H H'))
    (hw : ∀ H', callL tab ext 153 [.c (.ptr j 0), .I i, .I k] (hp H H') = some (.B wr, hp H H'))
    (nx : ∀ l' w', l'.length ≤ i + 1 → runL tab ext k112_0 ⟨(upd (upd (upd (upd (upd und 10 (.I ((i + 1 : Nat) : Int))) 6 (.I w')) 5 (.c (ownL 63 2 Span.enc l'))) 1 (.I k)) 0 (.c (.ptr j 0))), hp H []⟩ = R112 H (F (l', w'))) :
    ∀ l w, l.length ≤ i → runL tab ext k112_0 ⟨(upd (upd (upd (upd (upd und 10 (.I i)) 6 (.I w)) 5 (.c (ownL 63 2 Span.enc l))) 1 (.I k)) 0 (.c (.ptr j 0))), hp H []⟩ = R112 H (F (senStep f wr sp (l, w))) := by
  intro l w hl
  have h6 : ((l.length + 1) * 16 ≤ 140737488355328) = True := by simp; omega
  cases f with
  | false =>
    have n1 := nx l w (by omega)
    rw [s112_0, b112_0]
    rcases hi with rfl | rfl | rfl <;> simp only [nat_0, nat_1, nat_2, nat_3, Nat.zero_add, Nat.reduceAdd] at hf n1 ⊢ <;>
      simp (maxSteps := 4000000) only [ go_sem, ↓reduceIte, Nat.reduceMul, Int.reduceLT, Int.reduceNeg, Int.reduceEq, Int.reduceLE, Int.reduceAdd, Int.reduceSub, Nat.reduceEqDiff, Nat.reduceLeDiff, Nat.reduceLT, Nat.reduceAdd, reduceCtorEq, Span.enc, Span.encC_all, Span.enc_0, Span.enc_1, Span.enc_all, Span.enc_len, List.getElem?_map, Option.map_some, List.length_map, map_clC, map_nmC, ei64_0, eu8_0, eL_0, hf, n1] <;>
      simp only [kst, senStep, Bool.false_eq_true, if_false]
  | true =>
    have hs := hsy rfl
    have n1 := nx (l ++ [sp]) w (by simp; omega)
    have n2 := nx (l ++ [sp]) (w64 (w + 1)) (by simp; omega)
    rw [s112_0, b112_0]
    rcases hi with rfl | rfl | rfl <;> simp only [nat_0, nat_1, nat_2, nat_3, Nat.zero_add, Nat.reduceAdd] at hf hs hw n1 n2 ⊢ <;>
      cases wr <;>
      simp (maxSteps := 4000000) only [ go_sem, ↓reduceIte, Nat.reduceMul, Int.reduceLT, Int.reduceNeg, Int.reduceEq, Int.reduceLE, Int.reduceAdd, Int.reduceSub, Nat.reduceEqDiff, Nat.reduceLeDiff, Nat.reduceLT, Nat.reduceAdd, reduceCtorEq, Span.enc, Span.encC_all, Span.enc_0, Span.enc_1, Span.enc_all, Span.enc_len, List.getElem?_map, Option.map_some, List.length_map, map_clC, map_nmC, ei64_0, eu8_0, eL_0, hf, hs, hw, Span.eta, n1, n2, h6] <;>
      simp only [kst, senStep, Bool.false_eq_true, if_false, if_true]
def sensF (c : Config) (y : Tick) (q : Option Tick) (s0 s1 : Span) : List Span × Int :=
  senStep (fitS y q 2) (wrongS c y 2) (saysR c y) (senStep (fitS y q 1) (wrongS c y 1) s1 (senStep (fitS y q 0) (wrongS c y 0) s0 ([], 0)))
def sensEnd (x : List Span × Int) : Bool := if x.2 = 0 then true else if x.2 = 1 then (if (x.1.length : Int) = 3 then !(common x.1).2 else false) else false
def sensOk (c : Config) (s : Script) (c0 c1 : List Int) (k : Nat) : Bool := match s.ticks[k]? with
  | none => false
  | some y => sensEnd (sensF c y (prevOf s.ticks k) (saysT c (c0.getD (k - 1) 0) (c0.getD k 0)) (saysT c (c1.getD (k - 1) 0) (c1.getD k 0)))
theorem senStep_len (f w : Bool) (sp : Span) (x : List Span × Int) : (senStep f w sp x).1.length ≤ x.1.length + 1 := by
  unfold senStep; split <;> simp
set_option maxHeartbeats 4000000 in
theorem c112 {H : Heap} {j : Nat} (c : Config) (t : Track) (s : Script) (pl c0 c1 : List Int) (k : Nat) (hk : k < s.ticks.length) (h0 : c0.length = s.ticks.length) (h1 : c1.length = s.ticks.length) (hn : s.ticks.length ≤ 4096) (hH : H[j]? = some ⟨true, AJ c t s (AJT pl c0 c1)⟩) : callL tab ext 112 [.c (.ptr j 0), .I k] H = some (.B (sensOk c s c0 c1 k), H) := by
  obtain ⟨y, hy⟩ := get_ex hk
  have hHo : ∀ H', (hp H H')[j]? = some ⟨true, AJ c t s (AJT pl c0 c1)⟩ := fun H' => hp_old hH
  have hf := fun i hi H' => c151 (ext := ext) c t s (AJT pl c0 c1) i k y (prevOf s.ticks k) hi hy rfl hn (hHo H')
  have hw := fun i hi H' => c153 (ext := ext) c t s (AJT pl c0 c1) i k y hi hy (hHo H')
  have hs2 := fun H' => c152_2 (ext := ext) c t s (AJT pl c0 c1) k y hy (hHo H')
  have hs0 : fitS y (prevOf s.ticks k) 0 = true → ∀ H', callL tab ext 152 [.c (.ptr j 0), .I (0 : Nat), .I k] (hp H H') = some (.agg [J (saysT c (c0.getD (k - 1) 0) (c0.getD k 0)).lo, J (saysT c (c0.getD (k - 1) 0) (c0.getD k 0)).hi], hp H H') := by
    intro hft H'
    cases k with
    | zero => simp [fitS, prevOf] at hft
    | succ m =>
      obtain ⟨a, ha⟩ := get_ex (l := c0) (n := m) (by omega)
      obtain ⟨b, hb⟩ := get_ex (l := c0) (n := m + 1) (by omega)
      have := c152_t (ext := ext) c t s pl c0 c1 0 m y a b (Or.inl ⟨rfl, ha, hb⟩) hy hn (hHo H')
      simp only [Nat.add_sub_cancel, List.getD_eq_getElem?_getD, ha, hb, Option.getD_some]
      exact this
  have hs1 : fitS y (prevOf s.ticks k) 1 = true → ∀ H', callL tab ext 152 [.c (.ptr j 0), .I (1 : Nat), .I k] (hp H H') = some (.agg [J (saysT c (c1.getD (k - 1) 0) (c1.getD k 0)).lo, J (saysT c (c1.getD (k - 1) 0) (c1.getD k 0)).hi], hp H H') := by
    intro hft H'
    cases k with
    | zero => simp [fitS, prevOf] at hft
    | succ m =>
      obtain ⟨a, ha⟩ := get_ex (l := c1) (n := m) (by omega)
      obtain ⟨b, hb⟩ := get_ex (l := c1) (n := m + 1) (by omega)
      have := c152_t (ext := ext) c t s pl c0 c1 1 m y a b (Or.inr ⟨rfl, ha, hb⟩) hy hn (hHo H')
      simp only [Nat.add_sub_cancel, List.getD_eq_getElem?_getD, ha, hb, Option.getD_some]
      exact this
  have n2 := l112_s (ext := ext) (j := j) k 2 (by simp) _ _ (saysR c y) id H (hf 2 (by simp)) (fun _ H' => hs2 H') (hw 2 (by simp)) (fun l w _ => l112_3 k l w H)
  have n1 := l112_s (ext := ext) (j := j) k 1 (by simp) _ _ _ (fun x => senStep (fitS y (prevOf s.ticks k) 2) (wrongS c y 2) (saysR c y) x) H (hf 1 (by simp)) hs1 (hw 1 (by simp)) n2
  have n0 := l112_s (ext := ext) (j := j) k 0 (by simp) _ _ _ (fun x => senStep (fitS y (prevOf s.ticks k) 2) (wrongS c y 2) (saysR c y) (senStep (fitS y (prevOf s.ticks k) 1) (wrongS c y 1) (saysT c (c1.getD (k - 1) 0) (c1.getD k 0)) x)) H (hf 0 (by simp)) hs0 (hw 0 (by simp)) n1 [] 0 (by simp)
  have hlen : (sensF c y (prevOf s.ticks k) (saysT c (c0.getD (k - 1) 0) (c0.getD k 0)) (saysT c (c1.getD (k - 1) 0) (c1.getD k 0))).1.length ≤ 3 := by
    unfold sensF
    refine Nat.le_trans (senStep_len _ _ _ _) (Nat.succ_le_succ ?_)
    refine Nat.le_trans (senStep_len _ _ _ _) (Nat.succ_le_succ ?_)
    exact senStep_len _ _ _ _
  have n0' : runL tab ext k112_0 ⟨(upd (upd (upd (upd (upd und 10 (.I 0)) 6 (.I 0)) 5 (.c (.nil 2))) 1 (.I k)) 0 (.c (.ptr j 0))), hp H []⟩ = R112 H (sensF c y (prevOf s.ticks k) (saysT c (c0.getD (k - 1) 0) (c0.getD k 0)) (saysT c (c1.getD (k - 1) 0) (c1.getD k 0))) := n0
  rw [cl_112 rfl, B112]
  simp only [sensOk, hy]
  generalize sensF c y (prevOf s.ticks k) (saysT c (c0.getD (k - 1) 0) (c0.getD k 0)) (saysT c (c1.getD (k - 1) 0) (c1.getD k 0)) = x at *
  have hc := fun H => c154 (ext := ext) (H := H) x.1 (by omega)
  have hlm := lenV_ownCl (sz := 2) (f := Span.enc) (l := x.1)
  simp only [lenV, List.length_map] at hlm
  simp (maxSteps := 4000000) only [ go_sem, ↓reduceIte, Nat.reduceMul, Int.reduceLT, Int.reduceNeg, Int.reduceEq, Int.reduceLE, Int.reduceAdd, Int.reduceSub, Nat.reduceEqDiff, Nat.reduceLeDiff, Nat.reduceLT, Nat.reduceAdd, reduceCtorEq, Span.enc, Span.encC_all, Span.enc_0, Span.enc_1, Span.enc_all, Span.enc_len, List.getElem?_map, Option.map_some, List.length_map, map_clC, map_nmC, ei64_0, eu8_0, eL_0, n0', hc, hlm]
  simp only [sensEnd]
  all_goals ((repeat' (first | with_reducible rfl | with_reducible contradiction | split)) <;> (first | with_reducible rfl | (simp_all; done) | (simp_all; omega) | omega))
def allGo (c : Config) (s : Script) (c0 c1 : List Int) : Nat → List Tick → Bool
  | _, [] => true
  | i, _ :: r => if sensOk c s c0 c1 i = true then allGo c s c0 c1 (i + 1) r else false
set_option maxHeartbeats 4000000 in
theorem l67_0 {j : Nat} (c : Config) (t : Track) (s : Script) (pl c0 c1 : List Int) (H : Heap) (h0 : c0.length = s.ticks.length) (h1 : c1.length = s.ticks.length) (hn : s.ticks.length ≤ 4096) (hH : H[j]? = some ⟨true, AJ c t s (AJT pl c0 c1)⟩) : ∀ (r : List Tick) (i : Nat), s.ticks.drop i = r →
    runL tab ext k67_0 ⟨(upd (upd (upd und 10 (.I i)) 9 (.I s.ticks.length)) 0 (.c (.ptr j 0))), hp H []⟩ =
    if allGo c s c0 c1 i r = true then some (.exit 0, ⟨und, hp H []⟩) else some (.ret, ⟨(upd und 2 (.B false)), hp H []⟩)
  | [], i, hs => by
    have h0 := dr_end hs
    rw [s67_0, b67_0]
    simp (maxSteps := 4000000) only [ go_sem, ↓reduceIte, Nat.reduceMul, Int.reduceLT, Int.reduceNeg, Int.reduceEq, Int.reduceLE, Int.reduceAdd, Int.reduceSub, Nat.reduceEqDiff, Nat.reduceLeDiff, Nat.reduceLT, Nat.reduceAdd, reduceCtorEq, List.getElem?_map, Option.map_some, List.length_map, map_clC, map_nmC, ei64_0, eu8_0, eL_0, h0]
    simp only [allGo, kst, if_true]
  | k :: r, i, hs => by
    obtain ⟨_, h2, h3⟩ := dr_cons hs
    have ih := l67_0 c t s pl c0 c1 H h0 h1 hn hH r (i + 1) h3
    have h4 := dr_lt h2
    have h5 := w64_inc h2 (by omega)
    have hg := c112 (ext := ext) (H := hp H []) c t s pl c0 c1 i h2 h0 h1 hn (hp_old hH)
    rw [s67_0, b67_0]
    simp (maxSteps := 4000000) only [ go_sem, ↓reduceIte, Nat.reduceMul, Int.reduceLT, Int.reduceNeg, Int.reduceEq, Int.reduceLE, Int.reduceAdd, Int.reduceSub, Nat.reduceEqDiff, Nat.reduceLeDiff, Nat.reduceLT, Nat.reduceAdd, reduceCtorEq, List.getElem?_map, Option.map_some, List.length_map, map_clC, map_nmC, ei64_0, eu8_0, eL_0, h4, h5, ih, hg]
    simp only [allGo, kst]
    by_cases h : sensOk c s c0 c1 i = true <;> simp [h]
set_option maxHeartbeats 4000000 in
theorem c67 {H : Heap} {j : Nat} (c : Config) (t : Track) (s : Script) (pl c0 c1 : List Int) (h0 : c0.length = s.ticks.length) (h1 : c1.length = s.ticks.length) (hn : s.ticks.length ≤ 4096) (hH : H[j]? = some ⟨true, AJ c t s (AJT pl c0 c1)⟩) : callL tab ext 67 [.c (.ptr j 0)] H = some (.B (allGo c s c0 c1 0 s.ticks), H) := by
  have hl := l67_0 (ext := ext) c t s pl c0 c1 H h0 h1 hn hH s.ticks 0 rfl
  simp only [nat_0] at hl
  rw [cl_67 rfl, B67]
  simp (maxSteps := 4000000) only [ go_sem, ↓reduceIte, Nat.reduceMul, Int.reduceLT, Int.reduceNeg, Int.reduceEq, Int.reduceLE, Int.reduceAdd, Int.reduceSub, Nat.reduceEqDiff, Nat.reduceLeDiff, Nat.reduceLT, Nat.reduceAdd, reduceCtorEq, List.getElem?_map, Option.map_some, List.length_map, map_clC, map_nmC, ei64_0, eu8_0, eL_0, hl, hp_old hH]
  all_goals ((repeat' (first | with_reducible rfl | with_reducible contradiction | split)) <;> (first | with_reducible rfl | (simp_all; done) | (simp_all; omega) | omega))

end
end Go.Ab
namespace Go.Ab
section
variable {ext : Callee}
def cmpI (x y : Int) : Int := if x < y then -1 else if y < x then 1 else 0
theorem c288 {H : Heap} (x : Int) : callL tab ext 288 [.I x] H = some (.B false, H) := by
  rw [cl_288 rfl, B288]
  simp (maxSteps := 4000000) only [go_sem, ↓reduceIte, Nat.reduceMul, Int.reduceLT, Int.reduceNeg, Int.reduceEq, Int.reduceLE, Int.reduceAdd, Int.reduceSub, Nat.reduceEqDiff, Nat.reduceLeDiff, Nat.reduceLT, Nat.reduceAdd, reduceCtorEq, List.getElem?_map, Option.map_some, List.length_map, map_clC, map_nmC, ei64_0, eu8_0, eL_0, eq_self]
set_option maxHeartbeats 4000000 in
theorem c229 {H : Heap} (x y : Int) : callL tab ext 229 [.I x, .I y] H = some (.I (cmpI x y), H) := by
  rw [cl_229 rfl, B229]
  simp (maxSteps := 4000000) only [go_sem, ↓reduceIte, Nat.reduceMul, Int.reduceLT, Int.reduceNeg, Int.reduceEq, Int.reduceLE, Int.reduceAdd, Int.reduceSub, Nat.reduceEqDiff, Nat.reduceLeDiff, Nat.reduceLT, Nat.reduceAdd, reduceCtorEq, List.getElem?_map, Option.map_some, List.length_map, map_clC, map_nmC, ei64_0, eu8_0, eL_0, c288]
  try simp only [cmpI]
  all_goals ((repeat' (first | with_reducible rfl | with_reducible contradiction | split)) <;> (first | with_reducible rfl | (simp_all; done) | (simp_all; omega) | omega))
set_option maxHeartbeats 4000000 in
theorem c228 {H : Heap} (a b o g h y : Int) : callL tab ext 228 [.agg [J a, J b, J o, J g, J h], .I y] H = some (.I (cmpI a y), H) := by
  rw [cl_228 rfl, B228]
  simp (maxSteps := 4000000) only [go_sem, ↓reduceIte, Nat.reduceMul, Int.reduceLT, Int.reduceNeg, Int.reduceEq, Int.reduceLE, Int.reduceAdd, Int.reduceSub, Nat.reduceEqDiff, Nat.reduceLeDiff, Nat.reduceLT, Nat.reduceAdd, reduceCtorEq, Group.enc, Group.encC_all, Group.enc_0, Group.enc_1, Group.enc_2, Group.enc_3, Group.enc_4, Group.enc_all, Group.enc_len, List.getElem?_map, Option.map_some, List.length_map, map_clC, map_nmC, ei64_0, eu8_0, eL_0, c229]
  all_goals ((repeat' (first | with_reducible rfl | with_reducible contradiction | split)) <;> (first | with_reducible rfl | (simp_all; done) | (simp_all; omega) | omega))
def bsGo (l : List Group) (id : Int) : Nat → Nat → Nat → Nat
  | 0, i, _ => i
  | n + 1, i, j => if i < j then (match l[(i + j) / 2]? with
    | some g => if cmpI g.id id < 0 then bsGo l id n ((i + j) / 2 + 1) j else bsGo l id n i ((i + j) / 2)
    | none => i) else i
theorem half_eq (i j : Nat) (hi : i < 2 ^ 63) (hj : j < 2 ^ 63) : w64 (ishr .u64 (u64 (w64 ((i : Int) + (j : Int)))) 1) = (((i + j) / 2 : Nat) : Int) := by
  have h2 : u64 (w64 ((i : Int) + (j : Int))) = (i : Int) + j := by
    simp only [u64, w64, IntKind.wrap]; simp [IntKind.bits, IntKind.signed]; omega
  have h3 : ishr .u64 ((i : Int) + (j : Int)) 1 = ((i : Int) + j) / 2 := by
    unfold ishr
    rw [show (2 : Int) ^ min (1 : Int).toNat IntKind.u64.bits = 2 from by decide]
    exact Int.fdiv_eq_ediv_of_nonneg _ (by omega)
  rw [h2, h3, w64_id (by omega) (by omega)]
  omega
set_option maxHeartbeats 4000000 in
theorem l227_0 (l : List Group) (id : Int) (H : Heap) (hn : l.length < 2 ^ 63) : ∀ (n i j : Nat), j ≤ i + n → j ≤ l.length → i ≤ l.length →
    runL tab ext k227_0 ⟨(upd (upd (upd (upd (upd (upd und 10 (.I j)) 9 (.I i)) 8 (.I l.length)) 2 (.c (.fn 228 [] []))) 1 (.I id)) 0 (VL 5 Group.enc l)), hp H []⟩ =
    some (.exit 0, ⟨(upd (upd (upd (upd (upd und 9 (.I (bsGo l id n i j))) 8 (.I l.length)) 2 (.c (.fn 228 [] []))) 1 (.I id)) 0 (VL 5 Group.enc l)), hp H []⟩)
  | 0, i, j, h, hj, hi => by
    have h0 : ((i : Int) < (j : Int)) = False := by simp; omega
    rw [s227_0, b227_0]
    simp (maxSteps := 4000000) only [ go_sem, ↓reduceIte, Nat.reduceMul, Int.reduceLT, Int.reduceNeg, Int.reduceEq, Int.reduceLE, Int.reduceAdd, Int.reduceSub, Nat.reduceEqDiff, Nat.reduceLeDiff, Nat.reduceLT, Nat.reduceAdd, reduceCtorEq, Group.enc, Group.encC_all, Group.enc_0, Group.enc_1, Group.enc_2, Group.enc_3, Group.enc_4, Group.enc_all, Group.enc_len, List.getElem?_map, Option.map_some, List.length_map, map_clC, map_nmC, ei64_0, eu8_0, eL_0, h0]
    simp only [bsGo, kst]
  | n + 1, i, j, h, hj, hi => by
    by_cases hij : i < j
    · have h0 : ((i : Int) < (j : Int)) = True := by simp; omega
      obtain ⟨g, hg⟩ := get_ex (l := l) (n := (i + j) / 2) (by omega)
      have h1 := half_eq i j (by omega) (by omega)
      have h2 : w64 ((((i + j) / 2 : Nat) : Int) + 1) = (((i + j) / 2 + 1 : Nat) : Int) := w64_inc (n := l.length) (by omega) hn
      have i1 := l227_0 l id H hn n ((i + j) / 2 + 1) j (by omega) hj (by omega)
      have i2 := l227_0 l id H hn n i ((i + j) / 2) (by omega) (by omega) hi
      rw [s227_0, b227_0]
      simp (maxSteps := 4000000) only [ go_sem, ↓reduceIte, Nat.reduceMul, Int.reduceLT, Int.reduceNeg, Int.reduceEq, Int.reduceLE, Int.reduceAdd, Int.reduceSub, Nat.reduceEqDiff, Nat.reduceLeDiff, Nat.reduceLT, Nat.reduceAdd, reduceCtorEq, Group.enc, Group.encC_all, Group.enc_0, Group.enc_1, Group.enc_2, Group.enc_3, Group.enc_4, Group.enc_all, Group.enc_len, List.getElem?_map, Option.map_some, List.length_map, map_clC, map_nmC, ei64_0, eu8_0, eL_0, h0, u64_eq, h1, hg, c228]
      simp only [bsGo, if_pos hij, hg]
      by_cases hc : cmpI g.id id < 0
      · simp only [if_pos hc, go_sem, ↓reduceIte, Nat.reduceMul, Int.reduceLT, Int.reduceNeg, Int.reduceEq, Int.reduceLE, Int.reduceAdd, Int.reduceSub, Nat.reduceEqDiff, Nat.reduceLeDiff, Nat.reduceLT, Nat.reduceAdd, reduceCtorEq, Group.enc, Group.encC_all, Group.enc_0, Group.enc_1, Group.enc_2, Group.enc_3, Group.enc_4, Group.enc_all, Group.enc_len, List.getElem?_map, Option.map_some, List.length_map, map_clC, map_nmC, ei64_0, eu8_0, eL_0, h2, i1]
      · simp only [if_neg hc, go_sem, ↓reduceIte, Nat.reduceMul, Int.reduceLT, Int.reduceNeg, Int.reduceEq, Int.reduceLE, Int.reduceAdd, Int.reduceSub, Nat.reduceEqDiff, Nat.reduceLeDiff, Nat.reduceLT, Nat.reduceAdd, reduceCtorEq, Group.enc, Group.encC_all, Group.enc_0, Group.enc_1, Group.enc_2, Group.enc_3, Group.enc_4, Group.enc_all, Group.enc_len, List.getElem?_map, Option.map_some, List.length_map, map_clC, map_nmC, ei64_0, eu8_0, eL_0, i2]
    · have h0 : ((i : Int) < (j : Int)) = False := by simp; omega
      rw [s227_0, b227_0]
      simp (maxSteps := 4000000) only [ go_sem, ↓reduceIte, Nat.reduceMul, Int.reduceLT, Int.reduceNeg, Int.reduceEq, Int.reduceLE, Int.reduceAdd, Int.reduceSub, Nat.reduceEqDiff, Nat.reduceLeDiff, Nat.reduceLT, Nat.reduceAdd, reduceCtorEq, Group.enc, Group.encC_all, Group.enc_0, Group.enc_1, Group.enc_2, Group.enc_3, Group.enc_4, Group.enc_all, Group.enc_len, List.getElem?_map, Option.map_some, List.length_map, map_clC, map_nmC, ei64_0, eu8_0, eL_0, h0]
      simp only [bsGo, kst, if_neg hij]
theorem bsGo_le (l : List Group) (id : Int) : ∀ (n i j : Nat), i ≤ l.length → bsGo l id n i j ≤ l.length
  | 0, i, j, h => h
  | n + 1, i, j, h => by
    simp only [bsGo]
    split
    · split
      · rename_i g hg
        have := (List.getElem?_eq_some_iff.1 hg).1
        split
        · exact bsGo_le l id n _ _ (by omega)
        · exact bsGo_le l id n _ _ h
      · exact h
    · exact h
def find (l : List Group) (id : Int) : Nat × Bool := (bsGo l id l.length 0 l.length, match l[bsGo l id l.length 0 l.length]? with
  | some g => decide (cmpI g.id id = 0)
  | none => false)
set_option maxHeartbeats 4000000 in
theorem c227 {H : Heap} (l : List Group) (id : Int) (hn : l.length < 2 ^ 63) : callL tab ext 227 [VL 5 Group.enc l, .I id, .c (.fn 228 [] [])] H = some (.tup [.I (find l id).1, .B (find l id).2], H) := by
  have hl := l227_0 (ext := ext) l id H hn l.length 0 l.length (by omega) (Nat.le_refl _) (by omega)
  simp only [nat_0] at hl
  rw [cl_227 rfl, B227]
  simp only [find]
  have hle := bsGo_le l id l.length 0 l.length (by omega)
  generalize bsGo l id l.length 0 l.length = m at *
  by_cases hm : m < l.length
  · obtain ⟨g, hg⟩ := get_ex hm
    have h0 : ((m : Int) < (l.length : Nat)) = True := by simp; exact hm
    simp (maxSteps := 4000000) only [ go_sem, ↓reduceIte, Nat.reduceMul, Int.reduceLT, Int.reduceNeg, Int.reduceEq, Int.reduceLE, Int.reduceAdd, Int.reduceSub, Nat.reduceEqDiff, Nat.reduceLeDiff, Nat.reduceLT, Nat.reduceAdd, reduceCtorEq, Group.enc, Group.encC_all, Group.enc_0, Group.enc_1, Group.enc_2, Group.enc_3, Group.enc_4, Group.enc_all, Group.enc_len, List.getElem?_map, Option.map_some, List.length_map, map_clC, map_nmC, ei64_0, eu8_0, eL_0, hl, h0, hg, c228]
  · have h0 : ((m : Int) < (l.length : Nat)) = False := by simp; omega
    have hg : l[m]? = none := List.getElem?_eq_none_iff.2 (by omega)
    simp (maxSteps := 4000000) only [ go_sem, ↓reduceIte, Nat.reduceMul, Int.reduceLT, Int.reduceNeg, Int.reduceEq, Int.reduceLE, Int.reduceAdd, Int.reduceSub, Nat.reduceEqDiff, Nat.reduceLeDiff, Nat.reduceLT, Nat.reduceAdd, reduceCtorEq, Group.enc, Group.encC_all, Group.enc_0, Group.enc_1, Group.enc_2, Group.enc_3, Group.enc_4, Group.enc_all, Group.enc_len, List.getElem?_map, Option.map_some, List.length_map, map_clC, map_nmC, ei64_0, eu8_0, eL_0, hl, h0]
    simp only [hg]
theorem c156 {H : Heap} (t : Track) (id : Int) (hz : t.Sz) : callL tab ext 156 [.agg ((Track.enc t).map .d), .I id] H = some (.tup [.I (find t.groups id).1, .B (find t.groups id).2], H) := by
  have hc := fun H => c227 (ext := ext) (H := H) t.groups id hz.grps
  rw [cl_156 rfl, B156]
  simp (maxSteps := 4000000) only [go_sem, ↓reduceIte, Nat.reduceMul, Int.reduceLT, Int.reduceNeg, Int.reduceEq, Int.reduceLE, Int.reduceAdd, Int.reduceSub, Nat.reduceEqDiff, Nat.reduceLeDiff, Nat.reduceLT, Nat.reduceAdd, reduceCtorEq, Track.encC_all, Track.enc_0, Track.enc_1, Track.enc_all, Track.enc_len, List.getElem?_map, Option.map_some, List.length_map, map_clC, map_nmC, ei64_0, eu8_0, eL_0, hc]

end
end Go.Ab
namespace Go.Ab
section
variable {ext : Callee}
def nominal (t : Track) (s : Script) (r : Read) : Int × Bool :=
  if (find t.groups r.group).2 = false then (0, false) else if r.index < 0 then (0, false) else if (s.route.length : Int) ≤ r.index then (0, false) else
  match s.route[r.index.toNat]?, t.groups[(find t.groups r.group).1]? with
  | some x, some g => if ¬ x = g.segment then (0, false) else (w64 (startGo t 0 (s.route.take r.index.toNat) + g.offset), true)
  | _, _ => (0, false)
theorem find_some {l : List Group} {id : Int} (h : (find l id).2 = true) : ∃ g, l[(find l id).1]? = some g ∧ cmpI g.id id = 0 := by
  simp only [find] at h ⊢
  split at h
  · rename_i g hg; exact ⟨g, hg, by simpa using h⟩
  · cases h
set_option maxHeartbeats 4000000 in
theorem c155 {H : Heap} (t : Track) (s : Script) (cy ix gr pt : Int) (hz : t.Sz) (hin : InT t s.route) (hn : s.route.length < 2 ^ 63) : callL tab ext 155 [.agg ((Track.enc t).map .d), .agg ((Script.enc s).map .d), .agg [J cy, J ix, J gr, J pt]] H = some (.tup [.I (nominal t s ⟨cy, ix, gr, pt⟩).1, .B (nominal t s ⟨cy, ix, gr, pt⟩).2], H) := by
  have hf := fun H => c156 (ext := ext) (H := H) t gr hz
  rw [cl_155 rfl, B155]
  by_cases h2 : (find t.groups gr).2 = true
  · obtain ⟨g, hg, _⟩ := find_some h2
    rcases seg_cases s.route.length ix with h | ⟨h, h'⟩ | ⟨n, rfl, h⟩
    · simp (maxSteps := 4000000) only [↓r155_2, ↓r155_4,  go_sem, ↓reduceIte, Nat.reduceMul, Int.reduceLT, Int.reduceNeg, Int.reduceEq, Int.reduceLE, Int.reduceAdd, Int.reduceSub, Nat.reduceEqDiff, Nat.reduceLeDiff, Nat.reduceLT, Nat.reduceAdd, reduceCtorEq, Track.encC_all, Track.enc_0, Track.enc_1, Track.enc_all, Track.enc_len, Script.encC_all, Script.enc_0, Script.enc_1, Script.enc_2, Script.enc_3, Script.enc_4, Script.enc_5, Script.enc_6, Script.enc_7, Script.enc_8, Script.enc_all, Script.enc_len, Script.subC_3_2, Script.subC_5_2, Script.sub_3_2, Script.sub_5_2, Read.enc, Read.encC_all, Read.enc_0, Read.enc_1, Read.enc_2, Read.enc_3, Read.enc_all, Read.enc_len, List.getElem?_map, Option.map_some, List.length_map, map_clC, map_nmC, ei64_0, eu8_0, eL_0, hf, h2, h]
      simp only [nominal, h2, h]
      all_goals ((repeat' (first | with_reducible rfl | with_reducible contradiction | split)) <;> (first | with_reducible rfl | (simp_all; done) | (simp_all; omega) | omega))
    · simp (maxSteps := 4000000) only [↓r155_2, ↓r155_4,  go_sem, ↓reduceIte, Nat.reduceMul, Int.reduceLT, Int.reduceNeg, Int.reduceEq, Int.reduceLE, Int.reduceAdd, Int.reduceSub, Nat.reduceEqDiff, Nat.reduceLeDiff, Nat.reduceLT, Nat.reduceAdd, reduceCtorEq, Track.encC_all, Track.enc_0, Track.enc_1, Track.enc_all, Track.enc_len, Script.encC_all, Script.enc_0, Script.enc_1, Script.enc_2, Script.enc_3, Script.enc_4, Script.enc_5, Script.enc_6, Script.enc_7, Script.enc_8, Script.enc_all, Script.enc_len, Script.subC_3_2, Script.subC_5_2, Script.sub_3_2, Script.sub_5_2, Read.enc, Read.encC_all, Read.enc_0, Read.enc_1, Read.enc_2, Read.enc_3, Read.enc_all, Read.enc_len, List.getElem?_map, Option.map_some, List.length_map, map_clC, map_nmC, ei64_0, eu8_0, eL_0, hf, h2, h, h']
      simp only [nominal, h2, h, h']
      all_goals ((repeat' (first | with_reducible rfl | with_reducible contradiction | split)) <;> (first | with_reducible rfl | (simp_all; done) | (simp_all; omega) | omega))
    · obtain ⟨x, hx⟩ := get_ex h
      have hs := fun H => c97 (ext := ext) (H := H) t s.route n (hin.take n) hn (by omega)
      simp (maxSteps := 4000000) only [↓r155_2, ↓r155_4,  go_sem, ↓reduceIte, Nat.reduceMul, Int.reduceLT, Int.reduceNeg, Int.reduceEq, Int.reduceLE, Int.reduceAdd, Int.reduceSub, Nat.reduceEqDiff, Nat.reduceLeDiff, Nat.reduceLT, Nat.reduceAdd, reduceCtorEq, Track.encC_all, Track.enc_0, Track.enc_1, Track.enc_all, Track.enc_len, Script.encC_all, Script.enc_0, Script.enc_1, Script.enc_2, Script.enc_3, Script.enc_4, Script.enc_5, Script.enc_6, Script.enc_7, Script.enc_8, Script.enc_all, Script.enc_len, Script.subC_3_2, Script.subC_5_2, Script.sub_3_2, Script.sub_5_2, Group.encC_all, Group.enc_0, Group.enc_1, Group.enc_2, Group.enc_3, Group.enc_4, Group.enc_all, Group.enc_len, Read.enc, Read.encC_all, Read.enc_0, Read.enc_1, Read.enc_2, Read.enc_3, Read.enc_all, Read.enc_len, List.getElem?_map, Option.map_some, List.length_map, map_clC, map_nmC, ei64_0, eu8_0, eL_0, hf, h2, nat_neg, len_le h, hg, hx, hs]
      simp only [nominal, h2, nat_neg, len_le h, Int.toNat_natCast, hx, hg]
      all_goals ((repeat' (first | with_reducible rfl | with_reducible contradiction | split)) <;> (first | with_reducible rfl | (simp_all; done) | (simp_all; omega) | omega))
  · have h2 : (find t.groups gr).2 = false := by simpa using h2
    simp (maxSteps := 4000000) only [↓r155_2, ↓r155_4,  go_sem, ↓reduceIte, Nat.reduceMul, Int.reduceLT, Int.reduceNeg, Int.reduceEq, Int.reduceLE, Int.reduceAdd, Int.reduceSub, Nat.reduceEqDiff, Nat.reduceLeDiff, Nat.reduceLT, Nat.reduceAdd, reduceCtorEq, Track.encC_all, Track.enc_0, Track.enc_1, Track.enc_all, Track.enc_len, Script.encC_all, Script.enc_0, Script.enc_1, Script.enc_2, Script.enc_3, Script.enc_4, Script.enc_5, Script.enc_6, Script.enc_7, Script.enc_8, Script.enc_all, Script.enc_len, Script.subC_3_2, Script.subC_5_2, Script.sub_3_2, Script.sub_5_2, Read.enc, Read.encC_all, Read.enc_0, Read.enc_1, Read.enc_2, Read.enc_3, Read.enc_all, Read.enc_len, List.getElem?_map, Option.map_some, List.length_map, map_clC, map_nmC, ei64_0, eu8_0, eL_0, hf, h2]
    simp only [nominal, h2]
    all_goals ((repeat' (first | with_reducible rfl | with_reducible contradiction | split)) <;> (first | with_reducible rfl | (simp_all; done) | (simp_all; omega) | omega))
def readOk (c : Config) (t : Track) (s : Script) (pl : List Int) (r : Read) (ahead : Int) : Bool :=
  if r.cycle ≤ ahead then false else if (s.ticks.length : Int) ≤ r.cycle then false else if (nominal t s r).2 = false then false else
  match pl[r.cycle.toNat]?, t.groups[(find t.groups r.group).1]? with
  | some to, some g =>
    let from_ := match prevOf pl r.cycle.toNat with
      | some z => z
      | none => s.start
    if (if to < from_ then to else from_) ≤ r.point then (if r.point ≤ (if to > from_ then to else from_) then within (w64 (r.point - (nominal t s r).1)) (w64 (g.acc + c.antenna)) else false) else false
  | _, _ => false
theorem nominal_find {t : Track} {s : Script} {r : Read} (h : (nominal t s r).2 = true) : (find t.groups r.group).2 = true := by
  cases hf : (find t.groups r.group).2 with
  | true => rfl
  | false => simp [nominal, hf] at h
theorem cyc_cases (m : Nat) (x a : Int) (ha : -1 ≤ a) : (x ≤ a) ∨ (¬ x ≤ a ∧ (m : Int) ≤ x) ∨ ∃ n : Nat, x = n ∧ n < m ∧ ¬ (n : Int) ≤ a := by
  by_cases h : x ≤ a
  · exact Or.inl h
  · by_cases h2 : (m : Int) ≤ x
    · exact Or.inr (Or.inl ⟨h, h2⟩)
    · exact Or.inr (Or.inr ⟨x.toNat, by omega, by omega, by omega⟩)
set_option maxHeartbeats 4000000 in
theorem c113 {H : Heap} {j : Nat} (c : Config) (t : Track) (s : Script) (pl c0 c1 : List Int) (cy ix gr pt a : Int) (hz : t.Sz) (hin : InT t s.route) (hn : s.route.length < 2 ^ 63) (hl : pl.length = s.ticks.length) (hk : s.ticks.length ≤ 4096) (ha : -1 ≤ a) (hH : H[j]? = some ⟨true, AJ c t s (AJT pl c0 c1)⟩) : callL tab ext 113 [.c (.ptr j 0), .agg [J cy, J ix, J gr, J pt], .I a] H = some (.B (readOk c t s pl ⟨cy, ix, gr, pt⟩ a), H) := by
  have hno := fun H => c155 (ext := ext) (H := H) t s cy ix gr pt hz hin hn
  have hf := fun H => c156 (ext := ext) (H := H) t gr hz
  rw [cl_113 rfl, B113]
  rcases cyc_cases s.ticks.length cy a ha with h | ⟨h, h'⟩ | ⟨n, rfl, h, h'⟩
  · simp (maxSteps := 4000000) only [↓r113_1, ↓r113_3, ↓r113_6, ↓r113_8, ↓r113_9, ↓r113_10,  go_sem, ↓reduceIte, Nat.reduceMul, Int.reduceLT, Int.reduceNeg, Int.reduceEq, Int.reduceLE, Int.reduceAdd, Int.reduceSub, Nat.reduceEqDiff, Nat.reduceLeDiff, Nat.reduceLT, Nat.reduceAdd, reduceCtorEq, Read.enc, Read.encC_all, Read.enc_0, Read.enc_1, Read.enc_2, Read.enc_3, Read.enc_all, Read.enc_len, List.getElem?_map, Option.map_some, List.length_map, map_clC, map_nmC, ei64_0, eu8_0, eL_0, hp_old hH, h]
    simp only [readOk, h]
    all_goals ((repeat' (first | with_reducible rfl | with_reducible contradiction | split)) <;> (first | with_reducible rfl | (simp_all; done) | (simp_all; omega) | omega))
  · simp (maxSteps := 4000000) only [↓r113_1, ↓r113_3, ↓r113_6, ↓r113_8, ↓r113_9, ↓r113_10,  go_sem, ↓reduceIte, Nat.reduceMul, Int.reduceLT, Int.reduceNeg, Int.reduceEq, Int.reduceLE, Int.reduceAdd, Int.reduceSub, Nat.reduceEqDiff, Nat.reduceLeDiff, Nat.reduceLT, Nat.reduceAdd, reduceCtorEq, Read.enc, Read.encC_all, Read.enc_0, Read.enc_1, Read.enc_2, Read.enc_3, Read.enc_all, Read.enc_len, List.getElem?_map, Option.map_some, List.length_map, map_clC, map_nmC, ei64_0, eu8_0, eL_0, hp_old hH, h, h']
    simp only [readOk, h, h']
    all_goals ((repeat' (first | with_reducible rfl | with_reducible contradiction | split)) <;> (first | with_reducible rfl | (simp_all; done) | (simp_all; omega) | omega))
  · by_cases h2 : (nominal t s ⟨n, ix, gr, pt⟩).2 = true
    · obtain ⟨g, hg, _⟩ := find_some (nominal_find h2)
      obtain ⟨to, ht⟩ := get_ex (l := pl) (n := n) (by omega)
      cases n with
      | zero =>
        simp only [nat_0] at h' h2 hno ⊢
        have hl0 := len_le h
        simp only [nat_0] at hl0
        have hg' : t.groups[(find t.groups gr).1]? = some g := hg
        simp (maxSteps := 4000000) only [↓r113_1, ↓r113_3, ↓r113_6, ↓r113_8, ↓r113_9, ↓r113_10,  go_sem, ↓reduceIte, Nat.reduceMul, Int.reduceLT, Int.reduceNeg, Int.reduceEq, Int.reduceLE, Int.reduceAdd, Int.reduceSub, Nat.reduceEqDiff, Nat.reduceLeDiff, Nat.reduceLT, Nat.reduceAdd, reduceCtorEq, Read.enc, Read.encC_all, Read.enc_0, Read.enc_1, Read.enc_2, Read.enc_3, Read.enc_all, Read.enc_len, Group.encC_all, Group.enc_0, Group.enc_1, Group.enc_2, Group.enc_3, Group.enc_4, Group.enc_all, Group.enc_len, List.getElem?_map, Option.map_some, List.length_map, map_clC, map_nmC, ei64_0, eu8_0, eL_0, hp_old hH, h', hl0, hno, hf, h2, hg', ht, c109]
        simp only [readOk, h', hl0, h2, Int.toNat_zero, ht, hg', prevOf, if_false, Bool.true_eq_false]
        first | rfl | simp
      | succ m =>
        obtain ⟨z, hz'⟩ := get_ex (l := pl) (n := m) (by omega)
        have h6 := w64_dec h (by omega)
        have hg' : t.groups[(find t.groups gr).1]? = some g := hg
        simp (maxSteps := 4000000) only [↓r113_1, ↓r113_3, ↓r113_6, ↓r113_8, ↓r113_9, ↓r113_10,  go_sem, ↓reduceIte, Nat.reduceMul, Int.reduceLT, Int.reduceNeg, Int.reduceEq, Int.reduceLE, Int.reduceAdd, Int.reduceSub, Nat.reduceEqDiff, Nat.reduceLeDiff, Nat.reduceLT, Nat.reduceAdd, reduceCtorEq, Read.enc, Read.encC_all, Read.enc_0, Read.enc_1, Read.enc_2, Read.enc_3, Read.enc_all, Read.enc_len, Group.encC_all, Group.enc_0, Group.enc_1, Group.enc_2, Group.enc_3, Group.enc_4, Group.enc_all, Group.enc_len, List.getElem?_map, Option.map_some, List.length_map, map_clC, map_nmC, ei64_0, eu8_0, eL_0, hp_old hH, h', len_le h, hno, hf, h2, hg', ht, c109, hz', h6, pos_succ]
        simp only [readOk, h', len_le h, h2, Int.toNat_natCast, ht, hg', prevOf, hz', if_false, Bool.true_eq_false]
    · have h2 : (nominal t s ⟨n, ix, gr, pt⟩).2 = false := by simpa using h2
      simp (maxSteps := 4000000) only [↓r113_1, ↓r113_3, ↓r113_6, ↓r113_8, ↓r113_9, ↓r113_10,  go_sem, ↓reduceIte, Nat.reduceMul, Int.reduceLT, Int.reduceNeg, Int.reduceEq, Int.reduceLE, Int.reduceAdd, Int.reduceSub, Nat.reduceEqDiff, Nat.reduceLeDiff, Nat.reduceLT, Nat.reduceAdd, reduceCtorEq, Read.enc, Read.encC_all, Read.enc_0, Read.enc_1, Read.enc_2, Read.enc_3, Read.enc_all, Read.enc_len, List.getElem?_map, Option.map_some, List.length_map, map_clC, map_nmC, ei64_0, eu8_0, eL_0, hp_old hH, h', len_le h, hno, h2]
      simp only [readOk, h', len_le h, h2]
      all_goals ((repeat' (first | with_reducible rfl | with_reducible contradiction | split)) <;> (first | with_reducible rfl | (simp_all; done) | (simp_all; omega) | omega))
def readsGo (c : Config) (t : Track) (s : Script) (pl : List Int) : Int → List Read → Bool
  | _, [] => true
  | a, k :: r => if readOk c t s pl k a = true then readsGo c t s pl k.cycle r else false
theorem readOk_cyc {c : Config} {t : Track} {s : Script} {pl : List Int} {k : Read} {a : Int} (h : readOk c t s pl k a = true) : a < k.cycle := by
  apply Classical.byContradiction; intro hh
  have : k.cycle ≤ a := by omega
  simp [readOk, this] at h
set_option maxHeartbeats 4000000 in
theorem l68_0 {j : Nat} (c : Config) (t : Track) (s : Script) (pl c0 c1 : List Int) (H : Heap) (hz : t.Sz) (hin : InT t s.route) (hn : s.route.length < 2 ^ 63) (hl : pl.length = s.ticks.length) (hk : s.ticks.length ≤ 4096) (hr : s.reads.length < 2 ^ 63) (hH : H[j]? = some ⟨true, AJ c t s (AJT pl c0 c1)⟩) : ∀ (r : List Read) (i : Nat) (a : Int), -1 ≤ a → s.reads.drop i = r →
    runL tab ext k68_0 ⟨(upd (upd (upd (upd (upd und 12 (.I i)) 11 (.I s.reads.length)) 10 (VL 4 Read.enc s.reads)) 3 (.I a)) 0 (.c (.ptr j 0))), hp H []⟩ =
    if readsGo c t s pl a r = true then some (.exit 0, ⟨und, hp H []⟩) else some (.ret, ⟨(upd und 2 (.B false)), hp H []⟩)
  | [], i, a, ha, hs => by
    have h0 := dr_end hs
    rw [s68_0, b68_0]
    simp (maxSteps := 4000000) only [ go_sem, ↓reduceIte, Nat.reduceMul, Int.reduceLT, Int.reduceNeg, Int.reduceEq, Int.reduceLE, Int.reduceAdd, Int.reduceSub, Nat.reduceEqDiff, Nat.reduceLeDiff, Nat.reduceLT, Nat.reduceAdd, reduceCtorEq, Read.enc, Read.encC_all, Read.enc_0, Read.enc_1, Read.enc_2, Read.enc_3, Read.enc_all, Read.enc_len, List.getElem?_map, Option.map_some, List.length_map, map_clC, map_nmC, ei64_0, eu8_0, eL_0, h0]
    simp only [readsGo, kst, if_true]
  | k :: r, i, a, ha, hs => by
    obtain ⟨h1, h2, h3⟩ := dr_cons hs
    have h4 := dr_lt h2
    have h5 := w64_inc h2 hr
    have h6 : j + 1 ≤ pid H 0 := by simp [pid]; exact (List.getElem?_eq_some_iff.1 hH).1
    have hg := fun H' => c113 (ext := ext) (H := hp H H') c t s pl c0 c1 k.cycle k.index k.group k.point a hz hin hn hl hk ha (hp_old hH)
    rw [s68_0, b68_0]
    by_cases hb : readOk c t s pl k a = true
    · have ih := l68_0 c t s pl c0 c1 H hz hin hn hl hk hr hH r (i + 1) k.cycle (by have := readOk_cyc hb; omega) h3
      simp (maxSteps := 4000000) only [ go_sem, ↓reduceIte, Nat.reduceMul, Int.reduceLT, Int.reduceNeg, Int.reduceEq, Int.reduceLE, Int.reduceAdd, Int.reduceSub, Nat.reduceEqDiff, Nat.reduceLeDiff, Nat.reduceLT, Nat.reduceAdd, reduceCtorEq, Read.enc, Read.encC_all, Read.enc_0, Read.enc_1, Read.enc_2, Read.enc_3, Read.enc_all, Read.enc_len, List.getElem?_map, Option.map_some, List.length_map, map_clC, map_nmC, ei64_0, eu8_0, eL_0, h1, h4, h5, hg, h6, hb, ih]
      simp only [readsGo, if_pos hb, kst]
    · have hb : readOk c t s pl k a = false := by simpa using hb
      simp (maxSteps := 4000000) only [ go_sem, ↓reduceIte, Nat.reduceMul, Int.reduceLT, Int.reduceNeg, Int.reduceEq, Int.reduceLE, Int.reduceAdd, Int.reduceSub, Nat.reduceEqDiff, Nat.reduceLeDiff, Nat.reduceLT, Nat.reduceAdd, reduceCtorEq, Read.enc, Read.encC_all, Read.enc_0, Read.enc_1, Read.enc_2, Read.enc_3, Read.enc_all, Read.enc_len, List.getElem?_map, Option.map_some, List.length_map, map_clC, map_nmC, ei64_0, eu8_0, eL_0, h1, h4, h5, hg, h6, hb]
      simp only [readsGo, hb, kst, Bool.false_eq_true, if_false]
set_option maxHeartbeats 4000000 in
theorem c68 {H : Heap} {j : Nat} (c : Config) (t : Track) (s : Script) (pl c0 c1 : List Int) (hz : t.Sz) (hin : InT t s.route) (hn : s.route.length < 2 ^ 63) (hl : pl.length = s.ticks.length) (hk : s.ticks.length ≤ 4096) (hr : s.reads.length < 2 ^ 63) (hH : H[j]? = some ⟨true, AJ c t s (AJT pl c0 c1)⟩) : callL tab ext 68 [.c (.ptr j 0)] H = some (.B (readsGo c t s pl (-1) s.reads), H) := by
  have hl := l68_0 (ext := ext) c t s pl c0 c1 H hz hin hn hl hk hr hH s.reads 0 (-1) (by omega) rfl
  simp only [nat_0] at hl
  rw [cl_68 rfl, B68]
  simp (maxSteps := 4000000) only [ go_sem, ↓reduceIte, Nat.reduceMul, Int.reduceLT, Int.reduceNeg, Int.reduceEq, Int.reduceLE, Int.reduceAdd, Int.reduceSub, Nat.reduceEqDiff, Nat.reduceLeDiff, Nat.reduceLT, Nat.reduceAdd, reduceCtorEq, List.getElem?_map, Option.map_some, List.length_map, map_clC, map_nmC, ei64_0, eu8_0, eL_0, hl, hp_old hH]
  all_goals ((repeat' (first | with_reducible rfl | with_reducible contradiction | split)) <;> (first | with_reducible rfl | (simp_all; done) | (simp_all; omega) | omega))

end
end Go.Ab
namespace Go.Ab
section
variable {ext : Callee}
def sizeK (x : Int) : Int := if x = 1 then 2 else if x = 2 then 2 else if x = 5 then 2 else if x = 3 then 4 else if x = 4 then 4 else 0
set_option maxHeartbeats 4000000 in
theorem c157 {H : Heap} (x : Int) : callL tab ext 157 [.I x] H = some (.I (sizeK x), H) := by
  rw [cl_157 rfl, B157]
  simp (maxSteps := 4000000) only [go_sem, ↓reduceIte, Nat.reduceMul, Int.reduceLT, Int.reduceNeg, Int.reduceEq, Int.reduceLE, Int.reduceAdd, Int.reduceSub, Nat.reduceEqDiff, Nat.reduceLeDiff, Nat.reduceLT, Nat.reduceAdd, reduceCtorEq, List.getElem?_map, Option.map_some, List.length_map, map_clC, map_nmC, ei64_0, eu8_0, eL_0]
  try simp only [sizeK]
  all_goals ((repeat' (first | with_reducible rfl | with_reducible contradiction | split)) <;> (first | with_reducible rfl | (simp_all; done) | (simp_all; omega) | omega))
def signedK (x : Int) : Bool := if x = 3 then true else decide (x = 4)
set_option maxHeartbeats 4000000 in
theorem c159 {H : Heap} (x : Int) : callL tab ext 159 [.I x] H = some (.B (signedK x), H) := by
  rw [cl_159 rfl, B159]
  simp (maxSteps := 4000000) only [go_sem, ↓reduceIte, Nat.reduceMul, Int.reduceLT, Int.reduceNeg, Int.reduceEq, Int.reduceLE, Int.reduceAdd, Int.reduceSub, Nat.reduceEqDiff, Nat.reduceLeDiff, Nat.reduceLT, Nat.reduceAdd, reduceCtorEq, List.getElem?_map, Option.map_some, List.length_map, map_clC, map_nmC, ei64_0, eu8_0, eL_0]
  try simp only [signedK]
  all_goals ((repeat' (first | with_reducible rfl | with_reducible contradiction | split)) <;> (first | with_reducible rfl | (simp_all; done) | (simp_all; omega) | omega))
def crcStep (x : Int) : Int := if iand .u16 x 32768 = 0 then ishl .u16 x 1 else ixor .u16 (ishl .u16 x 1) 4129
def crcIt : Nat → Int → Int
  | 0, x => x
  | n + 1, x => crcIt n (crcStep x)
set_option maxHeartbeats 4000000 in
theorem l289_0 (H : Heap) : ∀ (n i : Nat) (x : Int), i + n = 8 →
    runL tab ext k289_0 ⟨(upd (upd und 10 (.I i)) 0 (.c (.d (.i .u16 x)))), hp H []⟩ = some (.exit 0, ⟨(upd und 0 (.c (.d (.i .u16 (crcIt n x))))), hp H []⟩)
  | 0, i, x, h => by
    have h0 : ((i : Int) < 8) = False := by simp; omega
    rw [s289_0, b289_0]
    simp (maxSteps := 4000000) only [ go_sem, ↓reduceIte, Nat.reduceMul, Int.reduceLT, Int.reduceNeg, Int.reduceEq, Int.reduceLE, Int.reduceAdd, Int.reduceSub, Nat.reduceEqDiff, Nat.reduceLeDiff, Nat.reduceLT, Nat.reduceAdd, reduceCtorEq, List.getElem?_map, Option.map_some, List.length_map, map_clC, map_nmC, ei64_0, eu8_0, eL_0, h0]
    simp only [crcIt, kst]
  | n + 1, i, x, h => by
    have h0 : ((i : Int) < 8) = True := by simp; omega
    have h5 := w64_inc (n := 8) (i := i) (by omega) (by omega)
    have ih := fun x => l289_0 H n (i + 1) x (by omega)
    rw [s289_0, b289_0]
    simp (maxSteps := 4000000) only [ go_sem, ↓reduceIte, Nat.reduceMul, Int.reduceLT, Int.reduceNeg, Int.reduceEq, Int.reduceLE, Int.reduceAdd, Int.reduceSub, Nat.reduceEqDiff, Nat.reduceLeDiff, Nat.reduceLT, Nat.reduceAdd, reduceCtorEq, List.getElem?_map, Option.map_some, List.length_map, map_clC, map_nmC, ei64_0, eu8_0, eL_0, h0, h5, ih]
    simp only [crcIt, crcStep, kst]
    try (by_cases hc : iand .u16 x 32768 = 0 <;> simp only [hc, if_true, if_false, go_sem, ↓reduceIte, Nat.reduceMul, Int.reduceLT, Int.reduceNeg, Int.reduceEq, Int.reduceLE, Int.reduceAdd, Int.reduceSub, Nat.reduceEqDiff, Nat.reduceLeDiff, Nat.reduceLT, Nat.reduceAdd, reduceCtorEq, List.getElem?_map, Option.map_some, List.length_map, map_clC, map_nmC, ei64_0, eu8_0, eL_0, h5, ih])
def crcMore (x b : Int) : Int := crcIt 8 (ixor .u16 x (ishl .u16 (IntKind.u16.wrap b) 8))
theorem c289 {H : Heap} (x b : Int) : callL tab ext 289 [.c (.d (.i .u16 x)), .c (.d (.i .u8 b))] H = some (.c (.d (.i .u16 (crcMore x b))), H) := by
  have hl := fun x => l289_0 (ext := ext) H 8 0 x rfl
  simp only [nat_0] at hl
  rw [cl_289 rfl, B289]
  simp (maxSteps := 4000000) only [go_sem, ↓reduceIte, Nat.reduceMul, Int.reduceLT, Int.reduceNeg, Int.reduceEq, Int.reduceLE, Int.reduceAdd, Int.reduceSub, Nat.reduceEqDiff, Nat.reduceLeDiff, Nat.reduceLT, Nat.reduceAdd, reduceCtorEq, List.getElem?_map, Option.map_some, List.length_map, map_clC, map_nmC, ei64_0, eu8_0, eL_0, hl]
  try simp only [crcMore]
def crcGo : Int → List Int → Int
  | x, [] => x
  | x, b :: r => crcGo (crcMore x b) r
set_option maxHeartbeats 4000000 in
theorem l230_0 (l : List Int) (H : Heap) (hn : l.length < 2 ^ 63) : ∀ (r : List Int) (i : Nat) (x : Int), l.drop i = r →
    runL tab ext k230_0 ⟨(upd (upd (upd (upd und 9 (.I i)) 8 (.I l.length)) 7 (VL 1 eu8 l)) 0 (.c (.d (.i .u16 x)))), hp H []⟩ = some (.exit 0, ⟨(upd und 0 (.c (.d (.i .u16 (crcGo x r))))), hp H []⟩)
  | [], i, x, hs => by
    have h0 := dr_end hs
    rw [s230_0, b230_0]
    simp (maxSteps := 4000000) only [ go_sem, ↓reduceIte, Nat.reduceMul, Int.reduceLT, Int.reduceNeg, Int.reduceEq, Int.reduceLE, Int.reduceAdd, Int.reduceSub, Nat.reduceEqDiff, Nat.reduceLeDiff, Nat.reduceLT, Nat.reduceAdd, reduceCtorEq, List.getElem?_map, Option.map_some, List.length_map, map_clC, map_nmC, ei64_0, eu8_0, eL_0, h0]
    simp only [crcGo, kst]
  | k :: r, i, x, hs => by
    obtain ⟨h1, h2, h3⟩ := dr_cons hs
    have ih := fun x => l230_0 l H hn r (i + 1) x h3
    have h4 := dr_lt h2
    have h5 := w64_inc h2 hn
    rw [s230_0, b230_0]
    simp (maxSteps := 4000000) only [ go_sem, ↓reduceIte, Nat.reduceMul, Int.reduceLT, Int.reduceNeg, Int.reduceEq, Int.reduceLE, Int.reduceAdd, Int.reduceSub, Nat.reduceEqDiff, Nat.reduceLeDiff, Nat.reduceLT, Nat.reduceAdd, reduceCtorEq, List.getElem?_map, Option.map_some, List.length_map, map_clC, map_nmC, ei64_0, eu8_0, eL_0, h1, h4, h5, c289, ih]
    simp only [crcGo, kst]
theorem c230 {H : Heap} (x : Int) (l : List Int) (hn : l.length < 2 ^ 63) : callL tab ext 230 [.c (.d (.i .u16 x)), VL 1 eu8 l] H = some (.c (.d (.i .u16 (crcGo x l))), H) := by
  have hl := fun x => l230_0 (ext := ext) l H hn l 0 x rfl
  simp only [nat_0] at hl
  rw [cl_230 rfl, B230]
  simp (maxSteps := 4000000) only [go_sem, ↓reduceIte, Nat.reduceMul, Int.reduceLT, Int.reduceNeg, Int.reduceEq, Int.reduceLE, Int.reduceAdd, Int.reduceSub, Nat.reduceEqDiff, Nat.reduceLeDiff, Nat.reduceLT, Nat.reduceAdd, reduceCtorEq, List.getElem?_map, Option.map_some, List.length_map, map_clC, map_nmC, ei64_0, eu8_0, eL_0, hl]
theorem c158 {H : Heap} (l : List Int) (hn : l.length < 2 ^ 63) : callL tab ext 158 [VL 1 eu8 l] H = some (.c (.d (.i .u16 (crcGo 65535 l))), H) := by
  rw [cl_158 rfl, B158]
  simp (maxSteps := 4000000) only [go_sem, ↓reduceIte, Nat.reduceMul, Int.reduceLT, Int.reduceNeg, Int.reduceEq, Int.reduceLE, Int.reduceAdd, Int.reduceSub, Nat.reduceEqDiff, Nat.reduceLeDiff, Nat.reduceLT, Nat.reduceAdd, reduceCtorEq, List.getElem?_map, Option.map_some, List.length_map, map_clC, map_nmC, ei64_0, eu8_0, eL_0, c230 _ l hn]
def valGo : Int → List Int → Int
  | v, [] => v
  | v, x :: r => valGo (ior .u32 (ishl .u32 v 8) (IntKind.u32.wrap x)) r
set_option maxHeartbeats 4000000 in
theorem l114_0 (b l : List Int) (k : Int) (H : Heap) (hn : l.length < 2 ^ 63) : ∀ (r : List Int) (i : Nat) (v : Int), l.drop i = r →
    runL tab ext k114_0 ⟨(upd (upd (upd (upd (upd (upd (upd und 50 (.I i)) 49 (.I l.length)) 48 (VL 1 eu8 l)) 6 (.c (.d (.i .u32 v)))) 4 (.I k)) 2 (.c (.ptr (pid H 0) 0))) 0 (VL 1 eu8 b)), hp H [⟨true, [J 0, J 0, J 0]⟩]⟩ =
    some (.exit 1, ⟨(upd (upd (upd (upd und 6 (.c (.d (.i .u32 (valGo v r))))) 4 (.I k)) 2 (.c (.ptr (pid H 0) 0))) 0 (VL 1 eu8 b)), hp H [⟨true, [J 0, J 0, J 0]⟩]⟩)
  | [], i, v, hs => by
    have h0 := dr_end hs
    rw [s114_0, b114_0]
    simp (maxSteps := 4000000) only [ go_sem, ↓reduceIte, Nat.reduceMul, Int.reduceLT, Int.reduceNeg, Int.reduceEq, Int.reduceLE, Int.reduceAdd, Int.reduceSub, Nat.reduceEqDiff, Nat.reduceLeDiff, Nat.reduceLT, Nat.reduceAdd, reduceCtorEq, List.getElem?_map, Option.map_some, List.length_map, map_clC, map_nmC, ei64_0, eu8_0, eL_0, h0]
    simp only [valGo, kst]
  | x :: r, i, v, hs => by
    obtain ⟨h1, h2, h3⟩ := dr_cons hs
    have ih := fun v => l114_0 b l k H hn r (i + 1) v h3
    have h4 := dr_lt h2
    have h5 := w64_inc h2 hn
    rw [s114_0, b114_0]
    simp (maxSteps := 4000000) only [ go_sem, ↓reduceIte, Nat.reduceMul, Int.reduceLT, Int.reduceNeg, Int.reduceEq, Int.reduceLE, Int.reduceAdd, Int.reduceSub, Nat.reduceEqDiff, Nat.reduceLeDiff, Nat.reduceLT, Nat.reduceAdd, reduceCtorEq, List.getElem?_map, Option.map_some, List.length_map, map_clC, map_nmC, ei64_0, eu8_0, eL_0, h1, h4, h5, ih]
    simp only [valGo, kst]
def frZ : Frame := ⟨0, 0, 0⟩
def frameGet (b : List Int) : Frame × Int :=
  match b with
  | x0 :: x1 :: x2 :: _ :: _ :: _ =>
    if sizeK (w64 x0) = 0 then (frZ, 30) else if ¬ w64 x2 = sizeK (w64 x0) then (frZ, 11) else if ¬ (b.length : Int) = w64 (w64 (3 + sizeK (w64 x0)) + 2) then (frZ, 11) else if ¬ crcGo 65535 b = 0 then (frZ, 31) else
    (⟨w64 x0, w64 x1, if signedK (w64 x0) = true then w64 (IntKind.i32.wrap (valGo 0 ((b.drop 3).take (sizeK (w64 x0)).toNat))) else w64 (valGo 0 ((b.drop 3).take (sizeK (w64 x0)).toNat))⟩, 0)
  | _ => (frZ, 14)
theorem sizeK_cases (x : Int) : sizeK x = 0 ∨ sizeK x = 2 ∨ sizeK x = 4 := by
  unfold sizeK; repeat' split
  all_goals simp
set_option maxHeartbeats 4000000 in
theorem c114 {H : Heap} (b : List Int) (hn : b.length < 2 ^ 63) : callL tab ext 114 [VL 1 eu8 b] H = some (.tup [.agg [J (frameGet b).1.kind, J (frameGet b).1.seq, J (frameGet b).1.value], .I (frameGet b).2], H) := by
  rw [cl_114 rfl, B114]
  by_cases hlen : b.length < 5
  · have h1 : ((b.length : Int) < 5) = True := by simp; omega
    have h2 : frameGet b = (frZ, 14) := by
      unfold frameGet
      match b, hlen with
      | [], _ => rfl
      | [_], _ => rfl
      | [_, _], _ => rfl
      | [_, _, _], _ => rfl
      | [_, _, _, _], _ => rfl
    simp (maxSteps := 4000000) only [go_sem, ↓reduceIte, Nat.reduceMul, Int.reduceLT, Int.reduceNeg, Int.reduceEq, Int.reduceLE, Int.reduceAdd, Int.reduceSub, Nat.reduceEqDiff, Nat.reduceLeDiff, Nat.reduceLT, Nat.reduceAdd, reduceCtorEq, Frame.enc, Frame.encC_all, Frame.enc_0, Frame.enc_1, Frame.enc_2, Frame.enc_all, Frame.enc_len, List.getElem?_map, Option.map_some, List.length_map, map_clC, map_nmC, ei64_0, eu8_0, eL_0, h1]
    simp only [h2, frZ]
  · have h1 : ((b.length : Int) < 5) = False := by simp; omega
    obtain ⟨x0, x1, x2, x3, x4, r, rfl⟩ : ∃ x0 x1 x2 x3 x4 r, b = x0 :: x1 :: x2 :: x3 :: x4 :: r := by
      match b, hlen with
      | x0 :: x1 :: x2 :: x3 :: x4 :: r, _ => exact ⟨_, _, _, _, _, _, rfl⟩
      | [], h => exact (h (by simp)).elim
      | [_], h => exact (h (by simp)).elim
      | [_, _], h => exact (h (by simp)).elim
      | [_, _, _], h => exact (h (by simp)).elim
      | [_, _, _, _], h => exact (h (by simp)).elim
    have g0 : (x0 :: x1 :: x2 :: x3 :: x4 :: r)[0]? = some x0 := rfl
    have g1 : (x0 :: x1 :: x2 :: x3 :: x4 :: r)[1]? = some x1 := rfl
    have g2 : (x0 :: x1 :: x2 :: x3 :: x4 :: r)[2]? = some x2 := rfl
    have hcr := fun H => c158 (ext := ext) (H := H) (x0 :: x1 :: x2 :: x3 :: x4 :: r) hn
    have hl := fun k => l114_0 (ext := ext) (x0 :: x1 :: x2 :: x3 :: x4 :: r) (((x0 :: x1 :: x2 :: x3 :: x4 :: r).drop 3).take (sizeK (w64 x0)).toNat) k H (by simp at hn ⊢; omega) (((x0 :: x1 :: x2 :: x3 :: x4 :: r).drop 3).take (sizeK (w64 x0)).toNat) 0 0 rfl
    simp only [frameGet]
    generalize hb : x0 :: x1 :: x2 :: x3 :: x4 :: r = b at *
    rcases sizeK_cases (w64 x0) with hk | hk | hk
    · simp (maxSteps := 4000000) only [go_sem, ↓reduceIte, Nat.reduceMul, Int.reduceLT, Int.reduceNeg, Int.reduceEq, Int.reduceLE, Int.reduceAdd, Int.reduceSub, Nat.reduceEqDiff, Nat.reduceLeDiff, Nat.reduceLT, Nat.reduceAdd, reduceCtorEq, Frame.enc, Frame.encC_all, Frame.enc_0, Frame.enc_1, Frame.enc_2, Frame.enc_all, Frame.enc_len, List.getElem?_map, Option.map_some, List.length_map, map_clC, map_nmC, ei64_0, eu8_0, eL_0, h1, g0, g1, g2, c157, hk]
      simp only [hk, frZ, if_true]
    · by_cases q1 : w64 x2 = 2
      · by_cases q2 : (b.length : Int) = 7
        · have q2' : (5 ≤ b.length) = True := by simp; omega
          by_cases q3 : crcGo 65535 b = 0
          · simp only [hk, show (2 : Int).toNat = 2 from rfl, nat_0] at hl
            simp (maxSteps := 4000000) only [go_sem, ↓reduceIte, Nat.reduceMul, Int.reduceLT, Int.reduceNeg, Int.reduceEq, Int.reduceLE, Int.reduceAdd, Int.reduceSub, Nat.reduceEqDiff, Nat.reduceLeDiff, Nat.reduceLT, Nat.reduceAdd, reduceCtorEq, Frame.enc, Frame.encC_all, Frame.enc_0, Frame.enc_1, Frame.enc_2, Frame.enc_all, Frame.enc_len, List.getElem?_map, Option.map_some, List.length_map, map_clC, map_nmC, ei64_0, eu8_0, eL_0, h1, g0, g1, g2, c157, c159, hk, q1, q2, q3, q2', hcr, hl, Nat.reduceSub, ← List.map_drop, ← List.map_take]
            simp only [hk, q1, q2, q3, show (2 : Int).toNat = 2 from rfl, Int.reduceAdd, w64_5, w64_6, w64_7, w64_9]
          · simp (maxSteps := 4000000) only [go_sem, ↓reduceIte, Nat.reduceMul, Int.reduceLT, Int.reduceNeg, Int.reduceEq, Int.reduceLE, Int.reduceAdd, Int.reduceSub, Nat.reduceEqDiff, Nat.reduceLeDiff, Nat.reduceLT, Nat.reduceAdd, reduceCtorEq, Frame.enc, Frame.encC_all, Frame.enc_0, Frame.enc_1, Frame.enc_2, Frame.enc_all, Frame.enc_len, List.getElem?_map, Option.map_some, List.length_map, map_clC, map_nmC, ei64_0, eu8_0, eL_0, h1, g0, g1, g2, c157, hk, q1, q2, q3, hcr]
            simp only [hk, q1, q2, q3, frZ, Int.reduceAdd, w64_5, w64_6, w64_7, w64_9]
            all_goals ((repeat' (first | with_reducible rfl | with_reducible contradiction | split)) <;> (first | with_reducible rfl | (simp_all; done) | (simp_all; omega) | omega))
        · simp (maxSteps := 4000000) only [go_sem, ↓reduceIte, Nat.reduceMul, Int.reduceLT, Int.reduceNeg, Int.reduceEq, Int.reduceLE, Int.reduceAdd, Int.reduceSub, Nat.reduceEqDiff, Nat.reduceLeDiff, Nat.reduceLT, Nat.reduceAdd, reduceCtorEq, Frame.enc, Frame.encC_all, Frame.enc_0, Frame.enc_1, Frame.enc_2, Frame.enc_all, Frame.enc_len, List.getElem?_map, Option.map_some, List.length_map, map_clC, map_nmC, ei64_0, eu8_0, eL_0, h1, g0, g1, g2, c157, hk, q1, q2, hcr]
          simp only [hk, q1, q2, frZ, Int.reduceAdd, w64_5, w64_6, w64_7, w64_9]
          all_goals ((repeat' (first | with_reducible rfl | with_reducible contradiction | split)) <;> (first | with_reducible rfl | (simp_all; done) | (simp_all; omega) | omega))
      · simp (maxSteps := 4000000) only [go_sem, ↓reduceIte, Nat.reduceMul, Int.reduceLT, Int.reduceNeg, Int.reduceEq, Int.reduceLE, Int.reduceAdd, Int.reduceSub, Nat.reduceEqDiff, Nat.reduceLeDiff, Nat.reduceLT, Nat.reduceAdd, reduceCtorEq, Frame.enc, Frame.encC_all, Frame.enc_0, Frame.enc_1, Frame.enc_2, Frame.enc_all, Frame.enc_len, List.getElem?_map, Option.map_some, List.length_map, map_clC, map_nmC, ei64_0, eu8_0, eL_0, h1, g0, g1, g2, c157, hk, q1, hcr]
        simp only [hk, q1, frZ]
        all_goals ((repeat' (first | with_reducible rfl | with_reducible contradiction | split)) <;> (first | with_reducible rfl | (simp_all; done) | (simp_all; omega) | omega))
    · by_cases q1 : w64 x2 = 4
      · by_cases q2 : (b.length : Int) = 9
        · have q2' : (7 ≤ b.length) = True := by simp; omega
          by_cases q3 : crcGo 65535 b = 0
          · simp only [hk, show (4 : Int).toNat = 4 from rfl, nat_0] at hl
            simp (maxSteps := 4000000) only [go_sem, ↓reduceIte, Nat.reduceMul, Int.reduceLT, Int.reduceNeg, Int.reduceEq, Int.reduceLE, Int.reduceAdd, Int.reduceSub, Nat.reduceEqDiff, Nat.reduceLeDiff, Nat.reduceLT, Nat.reduceAdd, reduceCtorEq, Frame.enc, Frame.encC_all, Frame.enc_0, Frame.enc_1, Frame.enc_2, Frame.enc_all, Frame.enc_len, List.getElem?_map, Option.map_some, List.length_map, map_clC, map_nmC, ei64_0, eu8_0, eL_0, h1, g0, g1, g2, c157, c159, hk, q1, q2, q3, q2', hcr, hl, Nat.reduceSub, ← List.map_drop, ← List.map_take]
            simp only [hk, q1, q2, q3, show (4 : Int).toNat = 4 from rfl, Int.reduceAdd, w64_5, w64_6, w64_7, w64_9]
          · simp (maxSteps := 4000000) only [go_sem, ↓reduceIte, Nat.reduceMul, Int.reduceLT, Int.reduceNeg, Int.reduceEq, Int.reduceLE, Int.reduceAdd, Int.reduceSub, Nat.reduceEqDiff, Nat.reduceLeDiff, Nat.reduceLT, Nat.reduceAdd, reduceCtorEq, Frame.enc, Frame.encC_all, Frame.enc_0, Frame.enc_1, Frame.enc_2, Frame.enc_all, Frame.enc_len, List.getElem?_map, Option.map_some, List.length_map, map_clC, map_nmC, ei64_0, eu8_0, eL_0, h1, g0, g1, g2, c157, hk, q1, q2, q3, hcr]
            simp only [hk, q1, q2, q3, frZ, Int.reduceAdd, w64_5, w64_6, w64_7, w64_9]
            all_goals ((repeat' (first | with_reducible rfl | with_reducible contradiction | split)) <;> (first | with_reducible rfl | (simp_all; done) | (simp_all; omega) | omega))
        · simp (maxSteps := 4000000) only [go_sem, ↓reduceIte, Nat.reduceMul, Int.reduceLT, Int.reduceNeg, Int.reduceEq, Int.reduceLE, Int.reduceAdd, Int.reduceSub, Nat.reduceEqDiff, Nat.reduceLeDiff, Nat.reduceLT, Nat.reduceAdd, reduceCtorEq, Frame.enc, Frame.encC_all, Frame.enc_0, Frame.enc_1, Frame.enc_2, Frame.enc_all, Frame.enc_len, List.getElem?_map, Option.map_some, List.length_map, map_clC, map_nmC, ei64_0, eu8_0, eL_0, h1, g0, g1, g2, c157, hk, q1, q2, hcr]
          simp only [hk, q1, q2, frZ, Int.reduceAdd, w64_5, w64_6, w64_7, w64_9]
          all_goals ((repeat' (first | with_reducible rfl | with_reducible contradiction | split)) <;> (first | with_reducible rfl | (simp_all; done) | (simp_all; omega) | omega))
      · simp (maxSteps := 4000000) only [go_sem, ↓reduceIte, Nat.reduceMul, Int.reduceLT, Int.reduceNeg, Int.reduceEq, Int.reduceLE, Int.reduceAdd, Int.reduceSub, Nat.reduceEqDiff, Nat.reduceLeDiff, Nat.reduceLT, Nat.reduceAdd, reduceCtorEq, Frame.enc, Frame.encC_all, Frame.enc_0, Frame.enc_1, Frame.enc_2, Frame.enc_all, Frame.enc_len, List.getElem?_map, Option.map_some, List.length_map, map_clC, map_nmC, ei64_0, eu8_0, eL_0, h1, g0, g1, g2, c157, hk, q1, hcr]
        simp only [hk, q1, frZ]
        all_goals ((repeat' (first | with_reducible rfl | with_reducible contradiction | split)) <;> (first | with_reducible rfl | (simp_all; done) | (simp_all; omega) | omega))
structure Script.Sz (s : Script) : Prop where
  route : s.route.length < 2 ^ 63
  ticks : s.ticks.length < 2 ^ 63
  reads : s.reads.length < 2 ^ 63
  junk : ∀ k ∈ s.ticks, k.junk.length < 2 ^ 63 ∧ ∀ b ∈ k.junk, b.length < 2 ^ 63
def junkBad (k : Int) (b : List Int) : Bool := if (frameGet b).2 = 0 then decide ((frameGet b).1.seq = iand .i64 k 255) else false
def junkGo (k : Int) : List (List Int) → Bool
  | [] => true
  | b :: r => if junkBad k b = true then false else junkGo k r
set_option maxHeartbeats 4000000 in
theorem l69_1 (k : Int) (l : List (List Int)) (tk : List Tick) (n m : Int) (H : Heap) (hn : l.length < 2 ^ 63) (hb : ∀ b ∈ l, b.length < 2 ^ 63) : ∀ (r : List (List Int)) (i : Nat), l.drop i = r →
    runL tab ext k69_1 ⟨(upd (upd (upd (upd (upd (upd (upd und 27 (.I i)) 26 (.I l.length)) 25 (VL 1 (eL 1 eu8) l)) 15 (.I m)) 14 (.I n)) 13 (VL 11 Tick.enc tk)) 3 (.I k)), hp H []⟩ =
    if junkGo k r = true then some (.exit 2, ⟨(upd (upd (upd und 15 (.I m)) 14 (.I n)) 13 (VL 11 Tick.enc tk)), hp H []⟩) else some (.ret, ⟨(upd und 2 (.B false)), hp H []⟩)
  | [], i, hs => by
    have h0 := dr_end hs
    rw [s69_1, b69_1]
    simp (maxSteps := 4000000) only [ go_sem, ↓reduceIte, Nat.reduceMul, Int.reduceLT, Int.reduceNeg, Int.reduceEq, Int.reduceLE, Int.reduceAdd, Int.reduceSub, Nat.reduceEqDiff, Nat.reduceLeDiff, Nat.reduceLT, Nat.reduceAdd, reduceCtorEq, Frame.enc, Frame.encC_all, Frame.enc_0, Frame.enc_1, Frame.enc_2, Frame.enc_all, Frame.enc_len, List.getElem?_map, Option.map_some, List.length_map, map_clC, map_nmC, ei64_0, eu8_0, eL_0, h0]
    simp only [junkGo, kst, if_true]
  | b :: r, i, hs => by
    obtain ⟨h1, h2, h3⟩ := dr_cons hs
    have ih := l69_1 k l tk n m H hn hb r (i + 1) h3
    have h4 := dr_lt h2
    have h5 := w64_inc h2 hn
    have hg := fun H => c114 (ext := ext) (H := H) b (hb b (List.mem_of_getElem? h1))
    rw [s69_1, b69_1]
    simp (maxSteps := 4000000) only [ go_sem, ↓reduceIte, Nat.reduceMul, Int.reduceLT, Int.reduceNeg, Int.reduceEq, Int.reduceLE, Int.reduceAdd, Int.reduceSub, Nat.reduceEqDiff, Nat.reduceLeDiff, Nat.reduceLT, Nat.reduceAdd, reduceCtorEq, Frame.enc, Frame.encC_all, Frame.enc_0, Frame.enc_1, Frame.enc_2, Frame.enc_all, Frame.enc_len, List.getElem?_map, Option.map_some, List.length_map, map_clC, map_nmC, ei64_0, eu8_0, eL_0, h1, h4, h5, hg, ih]
    simp only [junkGo, junkBad, kst]
    all_goals ((repeat' (first | with_reducible rfl | with_reducible contradiction | split)) <;> (first | with_reducible rfl | (simp_all; done) | (simp_all; omega) | omega))

end
end Go.Ab
