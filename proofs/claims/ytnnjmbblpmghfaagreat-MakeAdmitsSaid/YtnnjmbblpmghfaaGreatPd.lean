/-
  What functions of the program come to.
  Conditions: none.
-/
import Derived.Test.YtnnjmbblpmghfaaGreatSi
import Derived.Test.YtnnjmbblpmghfaaGreatSj
set_option linter.unusedSimpArgs false
set_option linter.unusedVariables false
namespace Go.Ab
section
variable {ext : Callee}
/-! Braking. -/
def brk (A s : Int) : Int := s / A * s - A * (s / A * (s / A + 1) / 2)
theorem tri_step (n : Int) : n * (n + 1) / 2 = (n - 1) * (n - 1 + 1) / 2 + n := by
  have e : n * (n + 1) = (n - 1) * (n - 1 + 1) + n * 2 := by
    rw [show n - 1 + 1 = n by omega, Int.sub_mul, Int.mul_add, Int.one_mul, Int.mul_one]; omega
  rw [e, Int.add_mul_ediv_right _ _ (by omega)]
theorem brk_step {A s : Int} (hA : 0 < A) (h : A ≤ s) : brk A (s - A) = brk A s - (s - A) := by
  unfold brk
  have e : (s - A) / A = s / A - 1 := by
    have : s - A = s + (-1) * A := by omega
    rw [this, Int.add_mul_ediv_right _ _ (by omega)]; omega
  rw [e]
  have t := tri_step (s / A)
  generalize s / A = n at *
  rw [t]
  generalize (n - 1) * (n - 1 + 1) / 2 = T at *
  rw [Int.mul_add, Int.sub_mul, Int.mul_sub, Int.mul_comm A n]
  omega
theorem brk_small {A s : Int} (h0 : 0 ≤ s) (h : s < A) : brk A s = 0 := by
  unfold brk
  rw [Int.ediv_eq_zero_of_lt h0 h]; simp
theorem brk_bd {A s : Int} (hA : 0 < A) (h0 : 0 ≤ s) : 0 ≤ s / A ∧ s / A ≤ s ∧ 0 ≤ s / A * (s / A + 1) / 2 ∧ A * (s / A * (s / A + 1) / 2) ≤ s / A * s ∧ 0 ≤ A * (s / A * (s / A + 1) / 2) := by
  have q0 : 0 ≤ s / A := Int.ediv_nonneg h0 (by omega)
  have q1 : s / A ≤ s := Int.ediv_le_self _ h0
  have q2 := Int.mul_ediv_add_emod s A
  have q3 := Int.emod_nonneg s (b := A) (by omega)
  generalize s / A = n at *
  have h1 : A * n ≤ s := by omega
  have hn : 0 ≤ n * (n + 1) := Int.mul_nonneg q0 (by omega)
  have hT : n * (n + 1) / 2 ≤ n * n := by
    have : n ≤ n * n ∨ n = 0 := by
      by_cases z : n = 0
      · exact .inr z
      · left
        have := Int.mul_le_mul_of_nonneg_left (show (1 : Int) ≤ n by omega) q0
        rwa [Int.mul_one] at this
    rcases this with h | h
    · rw [Int.mul_add, Int.mul_one]; omega
    · subst h; decide
  have hT0 : 0 ≤ n * (n + 1) / 2 := Int.ediv_nonneg hn (by omega)
  refine ⟨q0, q1, hT0, ?_, Int.mul_nonneg (by omega) hT0⟩
  have a1 : A * (n * (n + 1) / 2) ≤ A * (n * n) := Int.mul_le_mul_of_nonneg_left hT (by omega)
  have a2 : n * (A * n) ≤ n * s := Int.mul_le_mul_of_nonneg_left h1 q0
  have a3 : A * (n * n) = n * (A * n) := by rw [← Int.mul_assoc, Int.mul_comm (A * n) n]
  omega
theorem brk_nn {A s : Int} (hA : 0 < A) (h0 : 0 ≤ s) : 0 ≤ brk A s := by
  obtain ⟨_, _, _, h, _⟩ := brk_bd hA h0
  unfold brk; omega
/-- A train at a place, with a speed, stops on its route. -/
structure Stop (L A a v : Int) : Prop where
  lo : 0 ≤ a
  hi : a ≤ L
  br : if v < 0 then brk A (-v) ≤ a else brk A v ≤ L - a
theorem stopsV_stop {m : Maker} {a v : Int} (hA : 1 ≤ m.c.maxAccel) (hA' : m.c.maxAccel ≤ 1048576) (hL : 0 ≤ m.length) (hL' : m.length ≤ 1152921504606846976) (hv : -33554432 ≤ v) (hv' : v ≤ 33554432) (h : stopsV m a v = true) : Stop m.length m.c.maxAccel a v := by
  unfold stopsV at h
  by_cases h1 : a < 0
  · rw [if_pos h1] at h; cases h
  rw [if_neg h1] at h
  by_cases h2 : m.length < a
  · rw [if_pos h2] at h; cases h
  rw [if_neg h2] at h
  have h := of_decide_eq_true h
  have hs : (if v < 0 then w64 (0 - v) else v) = (if v < 0 then -v else v) := by
    split
    · rw [w64_fix (by omega) (by omega)]; omega
    · rfl
  rw [hs] at h
  have hs0 : 0 ≤ (if v < 0 then -v else v) ∧ (if v < 0 then -v else v) ≤ 33554432 := by split <;> omega
  have hbr : brk m.c.maxAccel (if v < 0 then -v else v) ≤ (if v < 0 then a else w64 (m.length - a)) := by
    generalize (if v < 0 then -v else v) = s at *
    generalize (if v < 0 then a else w64 (m.length - a)) = z at *
    obtain ⟨b1, b2, b3, b4, b5⟩ := brk_bd (A := m.c.maxAccel) (by omega) hs0.1
    rw [Int.tdiv_eq_ediv_of_nonneg hs0.1] at h
    unfold brk
    rw [w64_fix (x := s / m.c.maxAccel) (by omega) (by omega)] at h
    have c1 := mul_bd (a := s / m.c.maxAccel) (b := s) (A := 33554432) (B := 33554432) (by omega) (by omega) (by omega) hs0.1 hs0.2
    have c2 := mul_bd (a := s / m.c.maxAccel) (b := s / m.c.maxAccel + 1) (A := 33554432) (B := 33554433) (by omega) (by omega) (by omega) (by omega) (by omega)
    have c3 : 0 ≤ s / m.c.maxAccel * (s / m.c.maxAccel + 1) := Int.mul_nonneg b1 (by omega)
    rw [w64_fix (x := s / m.c.maxAccel + 1) (by omega) (by omega), w64_fix (x := s / m.c.maxAccel * (s / m.c.maxAccel + 1)) (by omega) (by omega), Int.tdiv_eq_ediv_of_nonneg c3, w64_fix (x := s / m.c.maxAccel * (s / m.c.maxAccel + 1) / 2) (by omega) (by omega)] at h
    generalize s / m.c.maxAccel * (s / m.c.maxAccel + 1) / 2 = T at *
    generalize s / m.c.maxAccel * s = Q at *
    generalize m.c.maxAccel * T = AT at *
    rw [w64_fix (x := Q) (by omega) (by omega), w64_fix (x := AT) (by omega) (by omega), w64_fix (x := Q - AT) (by omega) (by omega)] at h
    exact h
  refine ⟨by omega, by omega, ?_⟩
  by_cases h3 : v < 0
  · simp only [h3, if_true] at hbr ⊢; exact hbr
  · simp only [h3, if_false] at hbr ⊢
    rw [w64_fix (by omega) (by omega)] at hbr; exact hbr
theorem clamp_eq {x a : Int} (h : 0 ≤ a) (h' : a ≤ 1152921504606846976) : clampV x a = if x < -a then -a else if a < x then a else x := by
  unfold clampV
  rw [w64_fix (by omega) (by omega), show (0 : Int) - a = -a by omega]
  by_cases h1 : x < -a
  · have : -a > x := by omega
    rw [if_pos this, if_pos h1, if_neg (by omega)]
  · have : ¬ -a > x := by omega
    rw [if_neg this, if_neg h1]
/-- Who brakes stops, too. -/
theorem Stop.brake {L A a v : Int} (hA : 0 < A) (h : Stop L A a v) (hA' : A ≤ 1152921504606846976) : Stop L A (a + (v - clampV v A)) (v - clampV v A) := by
  obtain ⟨h1, h2, h3⟩ := h
  rw [clamp_eq (by omega) hA']
  by_cases q1 : v < -A
  · rw [if_pos q1]
    rw [if_pos (by omega)] at h3
    have s := brk_step (A := A) (s := -v) hA (by omega)
    have n := brk_nn (A := A) (s := -v - A) hA (by omega)
    have e : -(v - -A) = -v - A := by omega
    refine ⟨by omega, by omega, ?_⟩
    rw [if_pos (by omega), e]; omega
  · rw [if_neg q1]
    by_cases q2 : A < v
    · rw [if_pos q2]
      rw [if_neg (by omega)] at h3
      have s := brk_step (A := A) (s := v) hA (by omega)
      have n := brk_nn (A := A) (s := v - A) hA (by omega)
      refine ⟨by omega, by omega, ?_⟩
      rw [if_neg (by omega)]; omega
    · rw [if_neg q2]
      have z := brk_small (A := A) (s := 0) (by omega) hA
      refine ⟨by omega, by omega, ?_⟩
      rw [show v - v = 0 by omega, if_neg (by omega), z]; omega
/-- The next speed. -/
theorem speed_ok {m : Maker} (hA : 1 ≤ m.c.maxAccel) (hA' : m.c.maxAccel ≤ 1048576) (hM : 1 ≤ m.c.maxSpeed) (hM' : m.c.maxSpeed ≤ 16777216) (hL : 0 ≤ m.length) (hL' : m.length ≤ 576460752303423488) (hv : -m.c.maxSpeed ≤ m.v) (hv' : m.v ≤ m.c.maxSpeed) (hs : Stop m.length m.c.maxAccel m.at_ m.v) :
    (-m.c.maxSpeed ≤ spV m ∧ spV m ≤ m.c.maxSpeed) ∧ (-m.c.maxAccel ≤ spV m - m.v ∧ spV m - m.v ≤ m.c.maxAccel) ∧ Stop m.length m.c.maxAccel (m.at_ + spV m) (spV m) := by
  have h1 := hs.lo; have h2 := hs.hi
  have hb := hs.brake (by omega) (by omega)
  have hcv := clamp_eq (x := m.v) (a := m.c.maxAccel) (by omega) (by omega)
  have hcg := clamp_eq (x := m.goal) (a := m.c.maxSpeed) (by omega) (by omega)
  have hg : -m.c.maxSpeed ≤ clampV m.goal m.c.maxSpeed ∧ clampV m.goal m.c.maxSpeed ≤ m.c.maxSpeed := by rw [hcg]; split <;> (try split) <;> omega
  have hn : (-m.c.maxSpeed ≤ spNext m ∧ spNext m ≤ m.c.maxSpeed) ∧ (-m.c.maxAccel ≤ spNext m - m.v ∧ spNext m - m.v ≤ m.c.maxAccel) := by
    unfold spNext
    generalize clampV m.goal m.c.maxSpeed = g at *
    rw [w64_fix (x := g - m.v) (by omega) (by omega)]
    have hc := clamp_eq (x := g - m.v) (a := m.c.maxAccel) (by omega) (by omega)
    have : -m.c.maxAccel ≤ clampV (g - m.v) m.c.maxAccel ∧ clampV (g - m.v) m.c.maxAccel ≤ m.c.maxAccel ∧ (-m.c.maxSpeed ≤ m.v + clampV (g - m.v) m.c.maxAccel ∧ m.v + clampV (g - m.v) m.c.maxAccel ≤ m.c.maxSpeed) := by
      rw [hc]; split <;> (try split) <;> omega
    generalize clampV (g - m.v) m.c.maxAccel = z at *
    rw [w64_fix (by omega) (by omega)]
    omega
  unfold spV
  generalize spNext m = x at *
  rw [w64_fix (x := m.at_ + x) (by omega) (by omega)]
  by_cases q : stopsV m (m.at_ + x) x = true
  · rw [if_pos q]
    exact ⟨hn.1, hn.2, stopsV_stop hA hA' hL (by omega) (by omega) (by omega) q⟩
  · rw [if_neg q]
    have hz : -m.c.maxSpeed ≤ m.v - clampV m.v m.c.maxAccel ∧ m.v - clampV m.v m.c.maxAccel ≤ m.c.maxSpeed ∧ -m.c.maxAccel ≤ m.v - clampV m.v m.c.maxAccel - m.v ∧ m.v - clampV m.v m.c.maxAccel - m.v ≤ m.c.maxAccel := by
      rw [hcv]; split <;> (try split) <;> omega
    rw [w64_fix (by omega) (by omega)]
    exact ⟨⟨hz.1, hz.2.1⟩, ⟨hz.2.2.1, hz.2.2.2⟩, hb⟩

end
end Go.Ab
namespace Go.Ab
section
variable {ext : Callee}
/-! A script that grows by a cycle. -/
def atEnd : Int → List Tick → Int
  | a, [] => a
  | a, k :: r => atEnd (w64 (a + k.v)) r
theorem atEnd_app : ∀ (l : List Tick) (a : Int) (y : Tick), atEnd a (l ++ [y]) = w64 (atEnd a l + y.v)
  | [], a, y => rfl
  | k :: r, a, y => by simp only [List.cons_append, atEnd]; exact atEnd_app r _ y
def lastV : Int → List Tick → Int
  | v, [] => v
  | _, k :: r => lastV k.v r
theorem lastV_app : ∀ (l : List Tick) (v : Int) (y : Tick), lastV v (l ++ [y]) = y.v
  | [], v, y => rfl
  | k :: r, v, y => by simp only [List.cons_append, lastV]; exact lastV_app r _ y
theorem onGo_app {L : Int} : ∀ {l : List Tick} {a : Int} {y : Tick}, onGo L a l = true → within y.v L = true → 0 ≤ w64 (atEnd a l + y.v) → w64 (atEnd a l + y.v) ≤ L → onGo L a (l ++ [y]) = true
  | [], a, y, _, h1, h2, h3 => by
    simp only [List.nil_append, onGo, atEnd] at h2 h3 ⊢
    rw [if_neg (by simp [h1]), if_neg (by omega), if_neg (by omega)]
  | k :: r, a, y, h, h1, h2, h3 => by
    simp only [List.cons_append, onGo, atEnd] at h h2 h3 ⊢
    by_cases q1 : within k.v L = false
    · rw [if_pos q1] at h; cases h
    rw [if_neg q1] at h ⊢
    by_cases q2 : w64 (a + k.v) < 0
    · rw [if_pos q2] at h; cases h
    rw [if_neg q2] at h ⊢
    by_cases q3 : L < w64 (a + k.v)
    · rw [if_pos q3] at h; cases h
    rw [if_neg q3] at h ⊢
    exact onGo_app h h1 h2 h3
theorem speedsGo_app {c : Config} : ∀ {l : List Tick} {v : Int} {y : Tick}, speedsGo c v l = true → within y.v c.maxSpeed = true → within (w64 (y.v - lastV v l)) c.maxAccel = true → speedsGo c v (l ++ [y]) = true
  | [], v, y, _, h1, h2 => by
    simp only [List.nil_append, speedsGo, lastV] at h2 ⊢
    rw [if_neg (by simp [h1]), if_neg (by simp [h2])]
  | k :: r, v, y, h, h1, h2 => by
    simp only [List.cons_append, speedsGo, lastV] at h h2 ⊢
    by_cases q1 : within k.v c.maxSpeed = false
    · rw [if_pos q1] at h; cases h
    rw [if_neg q1] at h ⊢
    by_cases q2 : within (w64 (k.v - v)) c.maxAccel = false
    · rw [if_pos q2] at h; cases h
    rw [if_neg q2] at h ⊢
    exact speedsGo_app h h1 h2
theorem numsGo_app {c : Config} : ∀ {l : List Tick} {y : Tick}, numsGo c l = true → numsBad c y = false → numsGo c (l ++ [y]) = true
  | [], y, _, h1 => by simp only [List.nil_append, numsGo]; rw [if_neg (by simp [h1])]
  | k :: r, y, h, h1 => by
    simp only [List.cons_append, numsGo] at h ⊢
    by_cases q1 : numsBad c k = true
    · rw [if_pos q1] at h; cases h
    rw [if_neg q1] at h ⊢
    exact numsGo_app h h1
theorem junkAll_nil : ∀ {l : List Tick} {i : Nat}, (∀ y ∈ l, y.junk = []) → junkAll i l = true
  | [], i, _ => rfl
  | k :: r, i, h => by
    simp only [junkAll]
    rw [h k (by simp)]
    simp only [List.length_nil, junkGo]
    rw [if_neg (by decide), if_true]
    exact junkAll_nil fun y hy => h y (by simp [hy])
theorem allGo_of {c : Config} {s : Script} {c0 c1 : List Int} : ∀ (r : List Tick) (i : Nat), s.ticks.drop i = r → (∀ k, i ≤ k → k < s.ticks.length → sensOk c s c0 c1 k = true) → allGo c s c0 c1 i r = true
  | [], i, _, _ => rfl
  | k :: r, i, hs, h => by
    obtain ⟨h1, h2, h3⟩ := dr_cons hs
    simp only [allGo]
    rw [if_pos (h i (Nat.le_refl _) h2)]
    exact allGo_of r (i + 1) h3 fun k hk => h k (by omega)
theorem countsGo_app (p x : Int) (w : Nat) : ∀ (l r : List Tick) (a : Int), ∃ z, countsGo p x w a (l ++ r) = countsGo p x w a l ++ z
  | [], r, a => ⟨countsGo p x w a r, rfl⟩
  | k :: l, r, a => by
    obtain ⟨z, hz⟩ := countsGo_app p x w l r (w64 (a + w64 (w64 (p * k.v) + k.slip w)))
    exact ⟨z, by simp only [List.cons_append, countsGo, hz]⟩
theorem getD_app {l z : List Int} {k : Nat} (h : k < l.length) : (l ++ z).getD k 0 = l.getD k 0 := by
  rw [List.getD_eq_getElem?_getD, List.getD_eq_getElem?_getD, List.getElem?_append_left h]
theorem prevOf_app {α : Type} {l : List α} {y : List α} {k : Nat} (h : k < l.length) : prevOf (l ++ y) k = prevOf l k := by
  cases k with
  | zero => rfl
  | succ k => simp only [prevOf]; rw [List.getElem?_append_left (by omega)]
theorem sens_app {c : Config} {s s' : Script} {y : Tick} (h1 : s'.ticks = s.ticks ++ [y]) (h2 : s'.circ = s.circ) (h3 : s'.phase = s.phase) {k : Nat} (hk : k < s.ticks.length) :
    sensOk c s' (counts c s' 0) (counts c s' 1) k = sensOk c s (counts c s 0) (counts c s 1) k := by
  unfold sensOk counts
  rw [h1, h2, h3, List.getElem?_append_left hk, prevOf_app hk]
  obtain ⟨z0, e0⟩ := countsGo_app c.pulses (s.circ 0) 0 s.ticks [y] (s.phase 0)
  obtain ⟨z1, e1⟩ := countsGo_app c.pulses (s.circ 1) 1 s.ticks [y] (s.phase 1)
  rw [e0, e1, getD_app (by rw [countsGo_len]; omega), getD_app (by rw [countsGo_len]; omega), getD_app (by rw [countsGo_len]; omega), getD_app (by rw [countsGo_len]; omega)]
theorem placesGo_app : ∀ (l : List Tick) (a : Int) (y : Tick), placesGo a (l ++ [y]) = placesGo a l ++ [w64 (atEnd a l + y.v)]
  | [], a, y => rfl
  | k :: r, a, y => by simp only [List.cons_append, placesGo, atEnd]; rw [placesGo_app r _ y]
theorem placesGo_last : ∀ (l : List Tick) (a : Int), l ≠ [] → (placesGo a l)[l.length - 1]? = some (atEnd a l)
  | [], a, h => (h rfl).elim
  | [k], a, _ => rfl
  | k :: k2 :: r, a, _ => by
    have := placesGo_last (k2 :: r) (w64 (a + k.v)) (by simp)
    simp only [placesGo, atEnd, List.length_cons] at this ⊢
    rw [show r.length + 1 + 1 - 1 = (r.length + 1 - 1) + 1 by omega, List.getElem?_cons_succ]
    exact this
theorem nominal_eq {t : Track} {s s' : Script} (h : s'.route = s.route) (r : Read) : nominal t s' r = nominal t s r := by
  unfold nominal; rw [h]
theorem read_app {c : Config} {t : Track} {s s' : Script} {y : Tick} (h1 : s'.ticks = s.ticks ++ [y]) (h2 : s'.route = s.route) (h3 : s'.start = s.start) {r : Read} (h0 : 0 ≤ r.cycle) (hk : r.cycle < s.ticks.length) (a : Int) :
    readOk c t s' (placesGo s'.start s'.ticks) r a = readOk c t s (placesGo s.start s.ticks) r a := by
  have hl := placesGo_len s.ticks s.start
  have hk' : r.cycle.toNat < (placesGo s.start s.ticks).length := by omega
  unfold readOk
  rw [h1, h3, nominal_eq h2, placesGo_app, prevOf_app hk', List.getElem?_append_left hk']
  have e1 : ¬ (s.ticks.length : Int) ≤ r.cycle := by omega
  have e2 : ¬ ((s.ticks ++ [y]).length : Int) ≤ r.cycle := by simp; omega
  rw [if_neg e1, if_neg e2]
def lastC : Int → List Read → Int
  | a, [] => a
  | _, k :: r => lastC k.cycle r
theorem readsGo_app {c : Config} {t : Track} {s : Script} {pl : List Int} : ∀ {l : List Read} {a : Int} {r : Read}, readsGo c t s pl a l = true → readOk c t s pl r (lastC a l) = true → readsGo c t s pl a (l ++ [r]) = true
  | [], a, r, _, h => by simp only [List.nil_append, readsGo, lastC] at h ⊢; rw [if_pos h]
  | k :: l, a, r, h, h1 => by
    simp only [List.cons_append, readsGo, lastC] at h h1 ⊢
    by_cases q : readOk c t s pl k a = true
    · rw [if_pos q] at h ⊢; exact readsGo_app h h1
    · rw [if_neg q] at h; cases h
theorem readsGo_grow {c : Config} {t : Track} {s s' : Script} {y : Tick} (h1 : s'.ticks = s.ticks ++ [y]) (h2 : s'.route = s.route) (h3 : s'.start = s.start) : ∀ {l : List Read} {a : Int}, (∀ r ∈ l, 0 ≤ r.cycle ∧ r.cycle < s.ticks.length) → readsGo c t s (placesGo s.start s.ticks) a l = true → readsGo c t s' (placesGo s'.start s'.ticks) a l = true
  | [], a, _, _ => rfl
  | k :: l, a, hc, h => by
    obtain ⟨k1, k2⟩ := hc k (by simp)
    simp only [readsGo] at h ⊢
    rw [read_app h1 h2 h3 k1 k2]
    by_cases q : readOk c t s (placesGo s.start s.ticks) k a = true
    · rw [if_pos q] at h ⊢; exact readsGo_grow h1 h2 h3 (fun r hr => hc r (by simp [hr])) h
    · rw [if_neg q] at h; cases h

end
end Go.Ab
namespace Go.Ab
section
variable {ext : Callee}
/-- What a configuration that may be holds. -/
structure Cf (c : Config) : Prop where
  p1 : 1 ≤ c.pulses
  p2 : c.pulses ≤ 1024
  lo1 : 131072 ≤ c.circLo
  hi1 : c.circLo ≤ c.circHi
  hi2 : c.circHi ≤ 8388608
  rb1 : 0 ≤ c.radBase
  rb2 : c.radBase ≤ 1048576
  ae1 : 0 ≤ c.accErr
  ae2 : c.accErr ≤ 1048576
  ms1 : 1 ≤ c.maxSpeed
  ms2 : c.maxSpeed ≤ 16777216
  ma1 : 1 ≤ c.maxAccel
  ma2 : c.maxAccel ≤ 1048576
  an1 : 0 ≤ c.antenna
  an2 : c.antenna ≤ 1048576
theorem cf_of {c : Config} (h : (cfgCheck c).1 = 0) : Cf c := by
  unfold cfgCheck at h
  by_cases q0 : inR c.pulses 1 1024 = false
  · rw [if_pos q0] at h; exact absurd h (by decide)
  rw [if_neg q0] at h
  by_cases q1 : (inR c.circLo 131072 8388608 && inR c.circHi c.circLo 8388608) = false
  · rw [if_pos q1] at h; exact absurd h (by decide)
  rw [if_neg q1] at h
  by_cases q2 : ¬ w64 (16 * w64 (c.circHi - c.circLo)) ≤ c.circLo
  · rw [if_pos q2] at h; exact absurd h (by decide)
  rw [if_neg q2] at h
  by_cases q3 : (inR c.radBase 0 1048576 && inR c.radPart 0 65536) = false
  · rw [if_pos q3] at h; exact absurd h (by decide)
  rw [if_neg q3] at h
  by_cases q4 : inR c.accErr 0 1048576 = false
  · rw [if_pos q4] at h; exact absurd h (by decide)
  rw [if_neg q4] at h
  by_cases q5 : (inR c.maxSpeed 1 16777216 && inR c.maxAccel 1 1048576) = false
  · rw [if_pos q5] at h; exact absurd h (by decide)
  rw [if_neg q5] at h
  by_cases q6 : ¬ w64 (c.maxSpeed * c.pulses) ≤ w64 (32000 * c.circLo)
  · rw [if_pos q6] at h; exact absurd h (by decide)
  rw [if_neg q6] at h
  by_cases q7 : inR c.antenna 0 1048576 = false
  · rw [if_pos q7] at h; exact absurd h (by decide)
  simp only [Bool.not_eq_false, Bool.and_eq_true] at q0 q1 q3 q4 q5 q7
  obtain ⟨a1, a2⟩ := inR_iff q0
  obtain ⟨b1, b2⟩ := inR_iff q1.1
  obtain ⟨c1, c2⟩ := inR_iff q1.2
  obtain ⟨d1, d2⟩ := inR_iff q3.1
  obtain ⟨e1, e2⟩ := inR_iff q4
  obtain ⟨f1, f2⟩ := inR_iff q5.1
  obtain ⟨g1, g2⟩ := inR_iff q5.2
  obtain ⟨i1, i2⟩ := inR_iff q7
  exact ⟨a1, a2, b1, c1, c2, d1, d2, e1, e2, f1, f2, g1, g2, i1, i2⟩
theorem in_within {x f : Int} (h : 0 ≤ f) (h' : f ≤ 1152921504606846976) (h1 : -f ≤ x) (h2 : x ≤ f) : within x f = true := by
  simp only [within, Bool.and_eq_true, decide_eq_true_eq]
  rw [w64_fix (by omega) (by omega)]; omega
/-- What a made cycle is before and behind a fault. -/
structure TkOk (c : Config) (m : Maker) (v : Int) (k : Nat) (m' : Maker) (y : Tick) : Prop where
  v : y.v = v
  junk : y.junk = []
  acc : -c.accErr ≤ y.acc ∧ y.acc ≤ c.accErr
  slip : ∀ w, w = 0 ∨ w = 1 → -1099511627776 ≤ y.slip w ∧ y.slip w ≤ 1099511627776
  rad : -1073741824 ≤ y.rad ∧ y.rad ≤ 1073741824
  calm : 0 ≤ m'.calm
  lost : ¬ 0 < m'.calm → ∀ i, y.lost i = false
  wrong : (y.slip 0 = 0 ∧ y.slip 1 = 0 ∧ -c.radBase ≤ y.rad ∧ y.rad ≤ c.radBase) ∨
    (0 < k ∧ ¬ 0 < m.calm ∧ (∀ i, y.lost i = false) ∧ mkShows m y = true ∧ ((y.slip 0 = 0 ∧ y.slip 1 = 0) ∨ (-c.radBase ≤ y.rad ∧ y.rad ≤ c.radBase ∧ (y.slip 0 = 0 ∨ y.slip 1 = 0))))
theorem tkY_ok {c : Config} (C : Cf c) (d : Int) (m : Maker) (hc : m.c = c) (v : Int) : (tkY d m v).v = v ∧ (tkY d m v).junk = [] ∧ (-c.accErr ≤ (tkY d m v).acc ∧ (tkY d m v).acc ≤ c.accErr) ∧ (∀ w, (tkY d m v).slip w = 0) ∧ (-c.radBase ≤ (tkY d m v).rad ∧ (tkY d m v).rad ≤ c.radBase) ∧ ∀ i, (tkY d m v).lost i = false := by
  have a1 := C.ae1; have a2 := C.ae2; have b1 := C.rb1; have b2 := C.rb2
  have e1 : w64 (w64 (2 * c.accErr) + 1) = 2 * c.accErr + 1 := by rw [w64_fix (x := 2 * c.accErr) (by omega) (by omega), w64_fix (by omega) (by omega)]
  have e2 : w64 (w64 (2 * c.radBase) + 1) = 2 * c.radBase + 1 := by rw [w64_fix (x := 2 * c.radBase) (by omega) (by omega), w64_fix (by omega) (by omega)]
  obtain ⟨x1, x2⟩ := rto_lt d (n := 2 * c.accErr + 1) (by omega)
  obtain ⟨y1, y2⟩ := rto_lt (rnd d) (n := 2 * c.radBase + 1) (by omega)
  refine ⟨rfl, rfl, ?_, fun w => rfl, ?_, fun i => rfl⟩
  · show -c.accErr ≤ w64 (rto d (w64 (w64 (2 * m.c.accErr) + 1)) - m.c.accErr) ∧ w64 (rto d (w64 (w64 (2 * m.c.accErr) + 1)) - m.c.accErr) ≤ c.accErr
    rw [hc, e1, w64_fix (by omega) (by omega)]; omega
  · show -c.radBase ≤ w64 (rto (rnd d) (w64 (w64 (2 * m.c.radBase) + 1)) - m.c.radBase) ∧ w64 (rto (rnd d) (w64 (w64 (2 * m.c.radBase) + 1)) - m.c.radBase) ≤ c.radBase
    rw [hc, e2, w64_fix (by omega) (by omega)]; omega
theorem tkF_ok {c : Config} (C : Cf c) {m : Maker} (hc : m.c = c) (hm : 0 ≤ m.calm) (d d' : Int) (v : Int) (k : Nat) : TkOk c m v k (tkF k d m (tkY d' m v)).2.1 (tkF k d m (tkY d' m v)).2.2 := by
  obtain ⟨y1, y2, y3, y4, y5, y6⟩ := tkY_ok C d' m hc v
  generalize tkY d' m v = y at *
  have b1 := C.rb1; have b2 := C.rb2; have s1 := C.ms1; have s2 := C.ms2; have h1 := C.hi1; have h2 := C.hi2; have h3 := C.lo1
  have sl : ∀ w, w = 0 ∨ w = 1 → -1099511627776 ≤ y.slip w ∧ y.slip w ≤ 1099511627776 := fun w _ => by rw [y4 w]; omega
  have base : ∀ (m' : Maker), 0 ≤ m'.calm → TkOk c m v k m' y := fun m' h => ⟨y1, y2, y3, sl, by omega, h, fun _ => y6, .inl ⟨y4 0, y4 1, y5.1, y5.2⟩⟩
  unfold tkF
  by_cases hk : 0 < k
  · rw [if_pos hk]
    unfold faultV
    by_cases q1 : 0 < m.calm ∨ 3 < rto d 24
    · simp only [q1, if_true]
      refine base _ ?_
      show 0 ≤ (if 0 > w64 (m.calm - 1) then 0 else w64 (m.calm - 1))
      split <;> omega
    · simp only [q1, if_false]
      by_cases q2 : rto d 24 = 0
      · simp only [q2, if_true]
        exact ⟨y1, y2, y3, sl, by show -1073741824 ≤ y.rad ∧ y.rad ≤ 1073741824; omega, by show (0 : Int) ≤ 2; omega, fun h => (h (by show (0 : Int) < 2; omega)).elim, .inl ⟨y4 0, y4 1, y5.1, y5.2⟩⟩
      · simp only [q2, if_false]
        by_cases q3 : mkShows m (ftY d m y) = true
        · simp only [q3, if_true]
          have hcalm : ¬ 0 < m.calm := fun h => q1 (.inl h)
          obtain ⟨r1, r2⟩ := rto_lt (rnd d) (n := 300) (by omega)
          have hfar : 0 ≤ ftFar d m ∧ ftFar d m ≤ 8388608 * 300 := by
            unfold ftFar
            rw [hc, w64_fix (x := 1 + rto (rnd d) 300) (by omega) (by omega)]
            have := mul_bd (a := c.circHi) (b := 1 + rto (rnd d) 300) (A := 8388608) (B := 300) (by omega) (by omega) (by omega) (by omega) (by omega)
            have n0 : 0 ≤ c.circHi * (1 + rto (rnd d) 300) := Int.mul_nonneg (by omega) (by omega)
            rw [w64_fix (by omega) (by omega)]; omega
          generalize hF : ftFar d m = far at *
          unfold ftY at q3 ⊢
          rw [hF] at q3 ⊢
          by_cases q4 : rto d 24 = 1
          · rw [if_pos q4] at q3 ⊢
            refine ⟨y1, y2, y3, ?_, by show -1073741824 ≤ y.rad ∧ y.rad ≤ 1073741824; omega, hm, fun _ => y6, .inr ⟨hk, hcalm, y6, q3, .inr ⟨y5.1, y5.2, ?_⟩⟩⟩
            · intro w hw
              show -1099511627776 ≤ (if w = (rto (rnd (rnd d)) 2).toNat then far else y.slip w) ∧ (if w = (rto (rnd (rnd d)) 2).toNat then far else y.slip w) ≤ 1099511627776
              split
              · omega
              · exact sl w hw
            · rcases rto2 (rnd (rnd d)) with q | q
              · right; show (if 1 = (rto (rnd (rnd d)) 2).toNat then far else y.slip 1) = 0
                rw [q, if_neg (by decide)]; exact y4 1
              · left; show (if 0 = (rto (rnd (rnd d)) 2).toNat then far else y.slip 0) = 0
                rw [q, if_neg (by decide)]; exact y4 0
          · rw [if_neg q4] at q3 ⊢
            by_cases q5 : rto d 24 = 2
            · rw [if_pos q5] at q3 ⊢
              have hw64 : w64 (0 - far) = -far := by rw [w64_fix (by omega) (by omega)]; omega
              refine ⟨y1, y2, y3, ?_, by show -1073741824 ≤ y.rad ∧ y.rad ≤ 1073741824; omega, hm, fun _ => y6, .inr ⟨hk, hcalm, y6, q3, .inr ⟨y5.1, y5.2, ?_⟩⟩⟩
              · intro w hw
                show -1099511627776 ≤ (if w = (rto (rnd (rnd d)) 2).toNat then w64 (0 - far) else y.slip w) ∧ (if w = (rto (rnd (rnd d)) 2).toNat then w64 (0 - far) else y.slip w) ≤ 1099511627776
                split
                · rw [hw64]; omega
                · exact sl w hw
              · rcases rto2 (rnd (rnd d)) with q | q
                · right; show (if 1 = (rto (rnd (rnd d)) 2).toNat then w64 (0 - far) else y.slip 1) = 0
                  rw [q, if_neg (by decide)]; exact y4 1
                · left; show (if 0 = (rto (rnd (rnd d)) 2).toNat then w64 (0 - far) else y.slip 0) = 0
                  rw [q, if_neg (by decide)]; exact y4 0
            · rw [if_neg q5] at q3 ⊢
              obtain ⟨t1, t2⟩ := rto_lt (rnd (rnd d)) (n := c.maxSpeed + 1) (by omega)
              refine ⟨y1, y2, y3, sl, ?_, hm, fun _ => y6, .inr ⟨hk, hcalm, y6, q3, .inl ⟨y4 0, y4 1⟩⟩⟩
              show -1073741824 ≤ w64 (w64 (2 * rto (rnd (rnd d)) (w64 (m.c.maxSpeed + 1))) - m.c.maxSpeed) ∧ w64 (w64 (2 * rto (rnd (rnd d)) (w64 (m.c.maxSpeed + 1))) - m.c.maxSpeed) ≤ 1073741824
              rw [hc, w64_fix (x := c.maxSpeed + 1) (by omega) (by omega), w64_fix (x := 2 * rto (rnd (rnd d)) (c.maxSpeed + 1)) (by omega) (by omega), w64_fix (by omega) (by omega)]
              omega
        · have q3 : mkShows m (ftY d m y) = false := by simpa using q3
          simp only [q3, Bool.false_eq_true, if_false]
          exact base _ hm
  · rw [if_neg hk]
    exact base _ hm

end
end Go.Ab
namespace Go.Ab
section
variable {ext : Callee}
theorem err_ge {c : Config} {t : Track} {s : Script} (A : Adm c t s) {r : Int} (h1 : -2147483648 ≤ r) (h2 : r ≤ 2147483648) : c.radBase ≤ cfgErr c r ∧ cfgErr c r ≤ 1073741824 := by
  rw [err_same A h1 h2]
  refine ⟨?_, (refErr_bd A h1 h2).2⟩
  have hA := A.rb1; have hB := A.rb2
  unfold refErr
  have hm : 0 ≤ (if r < 0 then w64 (0 - r) else r) ∧ (if r < 0 then w64 (0 - r) else r) ≤ 2147483648 := by
    split
    · rw [w64_fix (by omega) (by omega)]; omega
    · omega
  generalize (if r < 0 then w64 (0 - r) else r) = m at *
  obtain ⟨m1, m2⟩ := hm
  have hp := mul_bd (a := m) (b := c.radPart) (A := 2147483648) (B := 65536) (by omega) (by omega) m2 A.rp1 A.rp2
  have hp0 : 0 ≤ m * c.radPart := Int.mul_nonneg m1 A.rp1
  rw [w64_fix (x := m * c.radPart) (by omega) (by omega), Int.tdiv_eq_ediv_of_nonneg hp0, w64_fix (x := m * c.radPart / 1048576) (by omega) (by omega), w64_fix (by omega) (by omega)]
  omega
theorem counts_new {c : Config} {m : Maker} {s' : Script} {y : Tick} (h1 : s'.ticks = m.ticks ++ [y]) (h2 : s'.circ = m.circ) (h3 : s'.phase = m.phase) {w : Nat} (ht : m.turned w = turnGo c.pulses w (m.phase w) (m.ticks.map refTick)) (hc : m.c = c) :
    (counts c s' w).getD m.ticks.length 0 = mkCnt m w (w64 (m.turned w + w64 (w64 (c.pulses * y.v) + y.slip w))) ∧ (0 < m.ticks.length → (counts c s' w).getD (m.ticks.length - 1) 0 = mkCnt m w (m.turned w)) := by
  unfold counts mkCnt
  rw [h1, h2, h3]
  constructor
  · rw [counts_at _ _ _ _ _ _ (by simp), List.take_of_length_le (by simp), List.map_append, turn_app, ← ht]
    simp only [List.map_cons, List.map_nil, turnGo]
    rw [show (refTick y).v = y.v from rfl, show (refTick y).slip = y.slip from rfl, turn_step]
  · intro h0
    rw [counts_at _ _ _ _ _ _ (by simp; omega), show m.ticks.length - 1 + 1 = m.ticks.length by omega, List.map_append, List.take_append_of_le_length (by simp), List.take_of_length_le (by simp), ← ht]
theorem sens_new {c : Config} {t : Track} {m m' : Maker} {s' : Script} {y : Tick} {v : Int} (A : Adm c t s') (h1 : s'.ticks = m.ticks ++ [y]) (h2 : s'.circ = m.circ) (h3 : s'.phase = m.phase) (hc : m.c = c)
    (ht : ∀ w, w = 0 ∨ w = 1 → m.turned w = turnGo c.pulses w (m.phase w) (m.ticks.map refTick)) (K : TkOk c m v m.ticks.length m' y) (hl : ∀ z, prevOf m.ticks m.ticks.length = some z → ¬ 0 < m.calm → ∀ i, z.lost i = false) :
    sensOk c s' (counts c s' 0) (counts c s' 1) m.ticks.length = true := by
  have hy : s'.ticks[m.ticks.length]? = some y := by rw [h1]; exact List.getElem?_concat_length
  have hm := List.mem_of_getElem? hy
  have vb := A.v y hm
  have ms := A.ms2
  have rb := K.rad
  have e := err_ge A (r := y.v + y.rad) (by omega) (by omega)
  have wr : -c.radBase ≤ y.rad → y.rad ≤ c.radBase → wrongS c y 2 = false := by
    intro a b
    unfold wrongS
    rw [if_pos rfl, w64_fix (by omega) (by omega), in_within (by have := A.rb1; omega) (by omega) (by omega) (by omega)]
    rfl
  have ws0 : y.slip 0 = 0 → wrongS c y 0 = false := by intro a; simp [wrongS, a]
  have ws1 : y.slip 1 = 0 → wrongS c y 1 = false := by intro a; simp [wrongS, a]
  unfold sensOk
  rw [hy]
  simp only
  rcases K.wrong with ⟨q0, q1, q2, q3⟩ | ⟨hk, hcalm, hlost, hs, hw⟩
  · unfold sensF
    rw [wr q2 q3, ws0 q0, ws1 q1]
    cases fitS y (prevOf s'.ticks m.ticks.length) 0 <;> cases fitS y (prevOf s'.ticks m.ticks.length) 1 <;> cases fitS y (prevOf s'.ticks m.ticks.length) 2 <;> simp [senStep, sensEnd]
  · -- all are fit
    obtain ⟨a, ha⟩ : ∃ a, m.ticks.length = a + 1 := ⟨m.ticks.length - 1, by omega⟩
    obtain ⟨z, hz⟩ := get_ex (l := m.ticks) (n := a) (by omega)
    have hp : prevOf m.ticks m.ticks.length = some z := by rw [ha]; exact hz
    have hp' : prevOf s'.ticks m.ticks.length = some z := by
      rw [h1, ha]; simp only [prevOf]; rw [List.getElem?_append_left (by omega)]; exact hz
    have hlz := hl z hp hcalm
    have f0 : fitS y (some z) 0 = true := by simp [fitS, hlost, hlz]
    have f1 : fitS y (some z) 1 = true := by simp [fitS, hlost, hlz]
    have f2 : fitS y (some z) 2 = true := by simp [fitS, hlost]
    obtain ⟨c0, d0⟩ := counts_new (y := y) h1 h2 h3 (ht 0 (Or.inl rfl)) hc
    obtain ⟨c1, d1⟩ := counts_new (y := y) h1 h2 h3 (ht 1 (Or.inr rfl)) hc
    rw [hp', c0, c1, d0 hk, d1 hk]
    have hsh : (common [saysT c (mkCnt m 0 (m.turned 0)) (mkCnt m 0 (w64 (m.turned 0 + w64 (w64 (c.pulses * y.v) + y.slip 0)))), saysT c (mkCnt m 1 (m.turned 1)) (mkCnt m 1 (w64 (m.turned 1 + w64 (w64 (c.pulses * y.v) + y.slip 1)))), saysR c y]).2 = false := by
      unfold mkShows mkTac at hs
      rw [hc] at hs
      simpa using hs
    unfold sensF
    rw [f0, f1, f2]
    generalize saysT c (mkCnt m 0 (m.turned 0)) (mkCnt m 0 (w64 (m.turned 0 + w64 (w64 (c.pulses * y.v) + y.slip 0)))) = S0 at *
    generalize saysT c (mkCnt m 1 (m.turned 1)) (mkCnt m 1 (w64 (m.turned 1 + w64 (w64 (c.pulses * y.v) + y.slip 1)))) = S1 at *
    generalize saysR c y = S2 at *
    rcases hw with ⟨q0, q1⟩ | ⟨q2, q3, q4⟩
    · rw [ws0 q0, ws1 q1]
      cases wrongS c y 2 <;> simp [senStep, sensEnd, w64_1, hsh]
    · rw [wr q2 q3]
      rcases q4 with q4 | q4
      · rw [ws0 q4]
        cases wrongS c y 1 <;> simp [senStep, sensEnd, w64_1, hsh]
      · rw [ws1 q4]
        cases wrongS c y 0 <;> simp [senStep, sensEnd, w64_1, hsh]

end
end Go.Ab
namespace Go.Ab
section
variable {ext : Callee}
theorem startGo_app (t : Track) : ∀ (l : List Int) (a x : Int), startGo t a (l ++ [x]) = w64 (startGo t a l + segLen t x)
  | [], a, x => rfl
  | k :: r, a, x => by simp only [List.cons_append, startGo]; exact startGo_app t r _ x
/-- What is known of a read that is made. -/
structure RdOk (m : Maker) (to k : Int) (x : Read) (ix : Nat) (n start : Int) (g : Group) : Prop where
  cyc : x.cycle = k
  ix_ : x.index = ix
  mem : g ∈ m.t.groups
  grp : x.group = g.id
  pt : x.point = w64 (start + g.offset)
  hit : rdHit m to start n g = true
theorem rdGrp_spec {m : Maker} {to k : Int} {ix : Nat} {n start : Int} : ∀ {l : List Group} {d : Int} {x : Read}, (∀ g ∈ l, g ∈ m.t.groups) → (rdGrp m to k ix n start d l).2 = some x → ∃ g, RdOk m to k x ix n start g
  | [], d, x, _, h => by simp [rdGrp] at h
  | g :: l, d, x, hl, h => by
    simp only [rdGrp] at h
    by_cases q1 : rdHit m to start n g = true
    · rw [if_pos q1] at h
      by_cases q2 : rto d 5 = 0
      · rw [if_pos q2] at h
        exact rdGrp_spec (fun z hz => hl z (by simp [hz])) h
      · rw [if_neg q2] at h
        simp only [Option.some.injEq] at h
        subst h
        exact ⟨g, rfl, rfl, hl g (by simp), rfl, rfl, q1⟩
    · rw [if_neg q1] at h
      exact rdGrp_spec (fun z hz => hl z (by simp [hz])) h
theorem rdWay_spec {m : Maker} {to k : Int} : ∀ {r : List Int} {a : Nat} {start d : Int} {x : Read}, m.route.drop a = r → start = startGo m.t 0 (m.route.take a) → (rdWay m to k a start d r).2 = some x →
    ∃ (ix : Nat) (n : Int) (g : Group), m.route[ix]? = some n ∧ RdOk m to k x ix n (startGo m.t 0 (m.route.take ix)) g
  | [], a, start, d, x, _, _, h => by simp [rdWay] at h
  | n :: r, a, start, d, x, hs, hst, h => by
    obtain ⟨h1, h2, h3⟩ := dr_cons hs
    simp only [rdWay] at h
    cases hc : (rdGrp m to k a n start d m.t.groups).2 with
    | some z =>
      rw [hc] at h
      simp only [Option.some.injEq] at h
      subst h
      obtain ⟨g, hg⟩ := rdGrp_spec (fun _ h => h) hc
      rw [hst] at hg
      exact ⟨a, n, g, h1, hg⟩
    | none =>
      rw [hc] at h
      simp only at h
      refine rdWay_spec h3 ?_ h
      rw [take_succ_get h1, startGo_app, hst]
theorem grpFirst_in (t : Track) : ∀ (r : List Group) (i : Nat) (q : Option Group), (grpFirst t i q r).isNone = true → ∀ g ∈ r, ∃ q, grpOk t q g = true
  | [], _, _, _, g, hg => by cases hg
  | k :: r, i, q, hn, g, hg => by
    simp only [grpFirst] at hn
    by_cases hb : grpOk t q k = true
    · rw [if_pos hb] at hn
      rcases List.mem_cons.1 hg with rfl | hg
      · exact ⟨q, hb⟩
      · exact grpFirst_in t r (i + 1) (some k) hn g hg
    · rw [if_neg hb] at hn; cases hn
theorem trk_first {t : Track} (h : (trkCheck t).1 = 0) : (grpFirst t 0 none t.groups).isNone = true := by
  simp only [trkCheck] at h
  repeat' split at h
  all_goals (first | (simp_all; done) | assumption)
theorem trk_acc {t : Track} (h : (trkCheck t).1 = 0) : ∀ g ∈ t.groups, 0 ≤ g.acc ∧ g.acc ≤ 1048576 := by
  intro g hg
  obtain ⟨q, hq⟩ := grpFirst_in t t.groups 0 none (trk_first h) g hg
  unfold grpOk at hq
  split at hq
  · cases hq
  · split at hq
    · unfold grpIn at hq
      repeat' split at hq
      all_goals first | (cases hq; done) | omega
    · cases hq
theorem find_mem {t : Track} (hr : Rise t.groups) {g : Group} (hg : g ∈ t.groups) : (find t.groups g.id).2 = true ∧ t.groups[(find t.groups g.id).1]? = some g := by
  obtain ⟨a, ha⟩ := List.getElem?_of_mem hg
  rcases find_same hr g.id with ⟨h1, h2⟩ | ⟨h1, h2⟩
  · obtain ⟨z, hz, hc⟩ := find_some h1
    rw [cmpI_eq] at hc
    refine ⟨h1, ?_⟩
    rw [hz]
    by_cases e : (find t.groups g.id).1 = a
    · rw [e, ha] at hz; rw [hz]
    · rcases Nat.lt_or_gt_of_ne e with e | e
      · have := hr _ _ _ _ e hz ha; omega
      · have := hr _ _ _ _ e ha hz; omega
  · have := findL_at hr (id := g.id) (r := t.groups) (i := 0) (m := a) (x := g) rfl (Nat.zero_le _) ha rfl
    rw [h2] at this; omega
theorem read_new {c : Config} {t : Track} {m : Maker} {s' : Script} {y : Tick} {v to : Int} {x : Read} {d : Int} (C : Cf c) (ht : (trkCheck t).1 = 0) (hmt : m.t = t) (h1 : s'.ticks = m.ticks ++ [y]) (h2 : s'.route = m.route) (h3 : s'.start = m.start)
    (hat : m.at_ = atEnd m.start m.ticks) (hv : y.v = v) (hto : to = w64 (m.at_ + v)) (hx : (rdWay m to m.ticks.length 0 0 d m.route).2 = some x) {a : Int} (ha : a < m.ticks.length) :
    x.cycle = m.ticks.length ∧ readOk c t s' (placesGo s'.start s'.ticks) x a = true := by
  obtain ⟨ix, n, g, hn, K⟩ := rdWay_spec rfl rfl hx
  refine ⟨K.cyc, ?_⟩
  have hg := K.mem
  rw [hmt] at hg
  obtain ⟨f1, f2⟩ := find_mem (trk_rise ht) hg
  obtain ⟨a1, a2⟩ := trk_acc ht g hg
  have b1 := C.an1; have b2 := C.an2
  have hit := K.hit
  unfold rdHit at hit
  by_cases q1 : g.segment = n
  · rw [if_pos q1] at hit
    by_cases q2 : (if to < m.at_ then to else m.at_) < w64 (startGo m.t 0 (m.route.take ix) + g.offset)
    · rw [if_pos q2] at hit
      have q3 := of_decide_eq_true hit
      rw [← K.pt] at q2 q3
      have hlt := (List.getElem?_eq_some_iff.1 hn).1
      have hnom : nominal t s' x = (x.point, true) := by
        unfold nominal
        rw [K.grp, f1, if_neg (by decide), K.ix_, if_neg (by omega), h2, if_neg (by omega), Int.toNat_natCast, hn, f2]
        simp only
        rw [if_neg (by simp [q1]), K.pt, hmt]
      unfold readOk
      rw [K.cyc, if_neg (by omega), h1, if_neg (by simp; omega), hnom, if_neg (by simp), K.grp, f2, h3, placesGo_app, Int.toNat_natCast]
      have hl := placesGo_len m.ticks m.start
      have e1 : (placesGo m.start m.ticks ++ [w64 (atEnd m.start m.ticks + y.v)])[m.ticks.length]? = some to := by
        rw [← hl, List.getElem?_concat_length, ← hat, hv, hto]
      rw [e1]
      simp only
      have e2 : (prevOf (placesGo m.start m.ticks ++ [w64 (atEnd m.start m.ticks + y.v)]) m.ticks.length = none ∧ m.start = m.at_) ∨ prevOf (placesGo m.start m.ticks ++ [w64 (atEnd m.start m.ticks + y.v)]) m.ticks.length = some m.at_ := by
        cases hk : m.ticks.length with
        | zero =>
          left
          exact ⟨rfl, by rw [hat, List.eq_nil_of_length_eq_zero hk]; rfl⟩
        | succ b =>
          right
          have hne : m.ticks ≠ [] := by intro e; rw [e] at hk; cases hk
          have := placesGo_last m.ticks m.start hne
          simp only [prevOf]
          rw [List.getElem?_append_left (by omega)]
          rw [show b = m.ticks.length - 1 by omega, this, hat]
      have fin : ∀ fr : Int, fr = m.at_ → (if (if to < fr then to else fr) ≤ x.point then (if x.point ≤ (if to > fr then to else fr) then within (w64 (x.point - x.point)) (w64 (g.acc + c.antenna)) else false) else false) = true := by
        intro fr hf
        subst hf
        rw [if_pos (by omega), if_pos q3, show x.point - x.point = 0 by omega]
        exact in_within (by rw [w64_fix (by omega) (by omega)]; omega) (by rw [w64_fix (by omega) (by omega)]; omega) (by rw [w64_fix (x := g.acc + c.antenna) (by omega) (by omega), w64_0]; omega) (by rw [w64_fix (x := g.acc + c.antenna) (by omega) (by omega), w64_0]; omega)
      rcases e2 with ⟨e2, e3⟩ | e2
      · rw [e2]; exact fin _ e3
      · rw [e2]; exact fin _ rfl
    · rw [if_neg q2] at hit; cases hit
  · rw [if_neg q1] at hit; cases hit

end
end Go.Ab
namespace Go.Ab
section
variable {ext : Callee}
def scrOf (m : Maker) : Script := ⟨m.route, m.start, m.v0, m.circ, m.phase, m.ticks, m.reads⟩
/-- What stays. -/
structure Fix (c : Config) (t : Track) (m : Maker) : Prop where
  hc : m.c = c
  ht : m.t = t
  len : m.length = startGo t 0 m.route
  len0 : 0 ≤ m.length
  len1 : m.length ≤ 288230376151711744
  st0 : 0 ≤ m.start
  st1 : m.start ≤ m.length
  v0 : m.v0 = 0
  wh : wheelsOk c (scrOf m) = true
/-- What is known behind k cycles. -/
structure Dyn (c : Config) (t : Track) (m : Maker) (k : Nat) : Prop where
  tl : m.ticks.length = k
  at_ : m.at_ = atEnd m.start m.ticks
  on : onGo m.length m.start m.ticks = true
  stop : Stop m.length c.maxAccel m.at_ m.v
  vl : m.v = lastV 0 m.ticks
  vb : -c.maxSpeed ≤ m.v ∧ m.v ≤ c.maxSpeed
  sp : speedsGo c 0 m.ticks = true
  nums : numsGo c m.ticks = true
  turn : ∀ w, w = 0 ∨ w = 1 → m.turned w = turnGo c.pulses w (m.phase w) (m.ticks.map refTick)
  junk : ∀ y ∈ m.ticks, y.junk = []
  sens : ∀ i, i < k → sensOk c (scrOf m) (counts c (scrOf m) 0) (counts c (scrOf m) 1) i = true
  calm : 0 ≤ m.calm
  lost : ∀ z, prevOf m.ticks k = some z → ¬ 0 < m.calm → ∀ i, z.lost i = false
  rd : readsGo c t (scrOf m) (placesGo m.start m.ticks) (-1) m.reads = true
  rc : ∀ r ∈ m.reads, 0 ≤ r.cycle ∧ r.cycle < k
theorem lastC_lt : ∀ {l : List Read} {a : Int} {k : Int}, a < k → (∀ r ∈ l, r.cycle < k) → lastC a l < k
  | [], a, k, h, _ => h
  | x :: l, a, k, _, h => by
    show lastC x.cycle l < k
    exact lastC_lt (h x (by simp)) fun r hr => h r (by simp [hr])
theorem prevOf_snoc {l : List Tick} {y : Tick} : prevOf (l ++ [y]) (l.length + 1) = some y := by
  simp only [prevOf]; exact List.getElem?_concat_length
theorem step_ok {c : Config} {t : Track} (C : Cf c) (hf : (cfgFits c t).1 = 0) (ht : (trkCheck t).1 = 0) {m : Maker} {k : Nat} (F : Fix c t m) (D : Dyn c t m k) (d : Int) : Fix c t (tickV d m k).2 ∧ Dyn c t (tickV d m k).2 (k + 1) := by
  unfold tickV
  simp only
  obtain ⟨s1, s2, s3⟩ := spB_same d m
  generalize spB d m = P at *
  obtain ⟨d1, m1⟩ := P
  simp only at s1 s2 s3 ⊢
  have hc1 : m1.c = c := s1.c.trans F.hc
  have l0 := F.len0; have l1 := F.len1
  have ms1 := C.ms1; have ms2 := C.ms2; have ma1 := C.ma1; have ma2 := C.ma2
  have sv := speed_ok (m := m1) (by rw [hc1]; exact ma1) (by rw [hc1]; exact ma2) (by rw [hc1]; exact ms1) (by rw [hc1]; exact ms2) (by rw [s1.length]; exact l0) (by rw [s1.length]; omega) (by rw [hc1, s1.v]; exact D.vb.1) (by rw [hc1, s1.v]; exact D.vb.2) (by rw [hc1, s1.length, s1.at_, s1.v]; exact D.stop)
  rw [hc1, s1.length, s1.at_, s1.v] at sv
  generalize spV m1 = v at *
  obtain ⟨⟨v1, v2⟩, ⟨v3, v4⟩, vs⟩ := sv
  have a0 := D.stop.lo; have a1 := D.stop.hi
  have e0 := vs.lo; have e1 := vs.hi
  have K := tkF_ok C hc1 (by rw [s3]; exact D.calm) (tkD d1 v) d1 v k
  obtain ⟨f1, f2⟩ := tkF_same k (tkD d1 v) m1 (tkY d1 m1 v)
  generalize tkF k (tkD d1 v) m1 (tkY d1 m1 v) = Q at *
  obtain ⟨d2, m2, y⟩ := Q
  simp only at f1 f2 K ⊢
  obtain ⟨r1, r2⟩ := readV_same d2 m2 k (w64 (m2.at_ + v))
  have hat2 : m2.at_ = m.at_ := f1.at_.trans s1.at_
  have hw : w64 (m.at_ + v) = m.at_ + v := w64_fix (by omega) (by omega)
  have htk2 : m2.ticks = m.ticks := f1.ticks.trans s1.ticks
  have hrd : (readV d2 m2 k (w64 (m2.at_ + v))).2.reads = m.reads ∨ ∃ x, (rdWay m2 (w64 (m2.at_ + v)) m2.ticks.length 0 0 d2 m2.route).2 = some x ∧ (readV d2 m2 k (w64 (m2.at_ + v))).2.reads = m.reads ++ [x] := by
    have hk2 : (m2.ticks.length : Int) = k := by rw [htk2, D.tl]
    rw [hk2]
    unfold readV
    simp only
    cases hx : (rdWay m2 (w64 (m2.at_ + v)) k 0 0 d2 m2.route).2 with
    | none => left; exact f2.trans s2
    | some x => right; exact ⟨x, rfl, by show m2.reads ++ [x] = _; rw [f2, s2]⟩
  generalize readV d2 m2 k (w64 (m2.at_ + v)) = R at *
  obtain ⟨d3, m3⟩ := R
  simp only at r1 r2 hrd ⊢
  -- the maker behind the cycle, against the one ahead of it
  have g_c : m3.c = c := r1.c.trans (f1.c.trans hc1)
  have g_len : m3.length = m.length := r1.length.trans (f1.length.trans s1.length)
  have g_st : m3.start = m.start := r1.start.trans (f1.start.trans s1.start)
  have g_rt : m3.route = m.route := r1.route.trans (f1.route.trans s1.route)
  have g_at : m3.at_ = m.at_ := r1.at_.trans hat2
  have g_tk : m3.ticks = m.ticks := r1.ticks.trans htk2
  have g_ci : m3.circ = m.circ := r1.circ.trans (f1.circ.trans s1.circ)
  have g_ph : m3.phase = m.phase := r1.phase.trans (f1.phase.trans s1.phase)
  have g_tu : m3.turned = m.turned := r1.turned.trans (f1.turned.trans s1.turned)
  have hF : Fix c t (tkEnd m3 v y) := ⟨g_c, by show m3.t = t; rw [r1.t, f1.t, s1.t]; exact F.ht, by show m3.length = startGo t 0 m3.route; rw [g_len, g_rt]; exact F.len, by show 0 ≤ m3.length; omega, by show m3.length ≤ _; omega, by show 0 ≤ m3.start; rw [g_st]; exact F.st0, by show m3.start ≤ m3.length; rw [g_st, g_len]; exact F.st1, by show m3.v0 = 0; rw [r1.v0, f1.v0, s1.v0]; exact F.v0, by
    have := F.wh
    unfold wheelsOk scrOf at this ⊢
    show (wheelOk c (m3.circ 0) (m3.phase 0) && wheelOk c (m3.circ 1) (m3.phase 1)) = true
    rw [g_ci, g_ph]; exact this⟩
  refine ⟨hF, ?_⟩
  -- the script behind the cycle
  have t_tk : (tkEnd m3 v y).ticks = m.ticks ++ [y] := by show m3.ticks ++ [y] = _; rw [g_tk]
  have hon : onGo m.length m.start (m.ticks ++ [y]) = true := by
    refine onGo_app D.on ?_ ?_ ?_
    · rw [K.v]; exact in_within l0 (by omega) (by omega) (by omega)
    · rw [← D.at_, K.v, hw]; exact e0
    · rw [← D.at_, K.v, hw]; exact e1
  have hsp : speedsGo c 0 (m.ticks ++ [y]) = true := by
    refine speedsGo_app D.sp ?_ ?_
    · rw [K.v]; exact in_within (by omega) (by omega) v1 v2
    · rw [K.v, ← D.vl, w64_fix (by omega) (by omega)]; exact in_within (by omega) (by omega) v3 v4
  have hnu : numsGo c (m.ticks ++ [y]) = true := by
    refine numsGo_app D.nums ?_
    obtain ⟨x1, x2⟩ := K.slip 0 (Or.inl rfl)
    obtain ⟨x3, x4⟩ := K.slip 1 (Or.inr rfl)
    obtain ⟨x5, x6⟩ := K.rad
    obtain ⟨x7, x8⟩ := K.acc
    have ae1 := C.ae1; have ae2 := C.ae2
    unfold numsBad
    rw [if_neg (by simp [in_within (f := 1099511627776) (by omega) (by omega) x1 x2]), if_neg (by simp [in_within (f := 1099511627776) (by omega) (by omega) x3 x4]), if_neg (by simp [in_within (f := 1073741824) (by omega) (by omega) x5 x6]), in_within ae1 (by omega) x7 x8]
    rfl
  have A : Adm c t (scrOf (tkEnd m3 v y)) := adm_parts hf (by
    unfold speedsOk
    show (if within m3.v0 c.maxSpeed = false then false else speedsGo c m3.v0 (m3.ticks ++ [y])) = true
    rw [r1.v0, f1.v0, s1.v0, F.v0, if_neg (by simp [in_within (x := 0) (f := c.maxSpeed) (by omega) (by omega) (by omega) (by omega)]), g_tk]
    exact hsp) hF.wh (by show numsGo c (m3.ticks ++ [y]) = true; rw [g_tk]; exact hnu)
  have htu : ∀ w, w = 0 ∨ w = 1 → (tkEnd m3 v y).turned w = turnGo c.pulses w (m3.phase w) ((m.ticks ++ [y]).map refTick) := by
    intro w hw'
    rw [List.map_append, turn_app, g_ph, ← D.turn w hw']
    simp only [List.map_cons, List.map_nil, turnGo]
    rw [show (refTick y).v = y.v from rfl, show (refTick y).slip = y.slip from rfl, ← turn_step, K.v]
    rcases hw' with rfl | rfl
    · show (if 0 = 1 then w64 (m3.turned 1 + w64 (w64 (m3.c.pulses * v) + y.slip 1)) else if 0 = 0 then w64 (m3.turned 0 + w64 (w64 (m3.c.pulses * v) + y.slip 0)) else m3.turned 0) = _
      rw [if_neg (by decide), if_pos rfl, g_tu, g_c]
    · show (if 1 = 1 then w64 (m3.turned 1 + w64 (w64 (m3.c.pulses * v) + y.slip 1)) else if 1 = 0 then w64 (m3.turned 0 + w64 (w64 (m3.c.pulses * v) + y.slip 0)) else m3.turned 1) = _
      rw [if_pos rfl, g_tu, g_c]
  have hsn : sensOk c (scrOf (tkEnd m3 v y)) (counts c (scrOf (tkEnd m3 v y)) 0) (counts c (scrOf (tkEnd m3 v y)) 1) k = true := by
    have hk1 : m1.ticks.length = k := by rw [s1.ticks, D.tl]
    have := sens_new (t := t) (m := m1) (m' := m2) (s' := scrOf (tkEnd m3 v y)) (y := y) (v := v) A (by show m3.ticks ++ [y] = m1.ticks ++ [y]; rw [g_tk, s1.ticks]) (by show m3.circ = m1.circ; rw [g_ci, s1.circ]) (by show m3.phase = m1.phase; rw [g_ph, s1.phase]) hc1 (by
      intro w hw'
      rw [s1.turned, s1.phase, s1.ticks]; exact D.turn w hw') (by rw [hk1]; exact K) (by
      intro z hz hcm
      rw [hk1, s1.ticks] at hz
      rw [s3] at hcm
      exact D.lost z hz hcm)
    rw [hk1] at this
    exact this
  have hrg : readsGo c t (scrOf (tkEnd m3 v y)) (placesGo (scrOf (tkEnd m3 v y)).start (scrOf (tkEnd m3 v y)).ticks) (-1) m.reads = true :=
    readsGo_grow (s := scrOf m) (y := y) t_tk (by show m3.route = m.route; exact g_rt) (by show m3.start = m.start; exact g_st) (fun r hr => by have := D.rc r hr; rw [← D.tl] at this; exact this) D.rd
  have hrr : readsGo c t (scrOf (tkEnd m3 v y)) (placesGo (scrOf (tkEnd m3 v y)).start (scrOf (tkEnd m3 v y)).ticks) (-1) m3.reads = true ∧ ∀ r ∈ m3.reads, 0 ≤ r.cycle ∧ r.cycle < ((k + 1 : Nat) : Int) := by
    rcases hrd with h | ⟨x, hx, h⟩
    · rw [h]
      exact ⟨hrg, fun r hr => by have := D.rc r hr; omega⟩
    · have hm2t : m2.ticks.length = k := by rw [htk2, D.tl]
      have hn := read_new (c := c) (t := t) (m := m2) (s' := scrOf (tkEnd m3 v y)) (y := y) (v := v) (to := w64 (m2.at_ + v)) (x := x) (d := d2) C ht (by rw [f1.t, s1.t]; exact F.ht) (by show m3.ticks ++ [y] = _; rw [g_tk, htk2]) (by show m3.route = _; rw [r1.route]) (by show m3.start = _; rw [r1.start]) (by rw [hat2, htk2, f1.start, s1.start]; exact D.at_) K.v rfl hx (a := lastC (-1) m.reads) (by
        rw [hm2t]
        exact lastC_lt (by omega) fun r hr => (D.rc r hr).2)
      rw [h]
      refine ⟨readsGo_app hrg hn.2, fun r hr => ?_⟩
      rcases List.mem_append.1 hr with hr | hr
      · have := D.rc r hr; omega
      · simp only [List.mem_singleton] at hr
        rw [hr, hn.1, hm2t]; omega
  refine ⟨?_, ?_, ?_, ?_, ?_, ?_, ?_, ?_, ?_, ?_, ?_, ?_, ?_, ?_, ?_⟩
  · rw [t_tk]; simp [D.tl]
  · show w64 (m3.at_ + v) = atEnd m3.start (m3.ticks ++ [y])
    rw [atEnd_app, g_st, g_tk, ← D.at_, g_at, K.v]
  · show onGo m3.length m3.start (m3.ticks ++ [y]) = true
    rw [g_len, g_st, g_tk]; exact hon
  · show Stop m3.length c.maxAccel (w64 (m3.at_ + v)) v
    rw [g_len, g_at, hw]; exact vs
  · show v = lastV 0 (m3.ticks ++ [y])
    rw [lastV_app, K.v]
  · exact ⟨v1, v2⟩
  · show speedsGo c 0 (m3.ticks ++ [y]) = true
    rw [g_tk]; exact hsp
  · show numsGo c (m3.ticks ++ [y]) = true
    rw [g_tk]; exact hnu
  · intro w hw'
    rw [htu w hw', t_tk]; rfl
  · intro z hz
    rw [t_tk] at hz
    rcases List.mem_append.1 hz with hz | hz
    · exact D.junk z hz
    · simp only [List.mem_singleton] at hz; rw [hz]; exact K.junk
  · intro i hi
    by_cases e : i = k
    · rw [e]; exact hsn
    · rw [sens_app (s := scrOf m) (y := y) t_tk (by show m3.circ = m.circ; exact g_ci) (by show m3.phase = m.phase; exact g_ph) (by show i < m.ticks.length; rw [D.tl]; omega)]
      exact D.sens i (by omega)
  · show 0 ≤ m3.calm
    rw [r2]; exact K.calm
  · intro z hz hcm
    rw [t_tk, ← D.tl, prevOf_snoc] at hz
    cases hz
    refine K.lost ?_
    rw [← r2]; exact hcm
  · exact hrr.1
  · exact hrr.2

end
end Go.Ab
namespace Go.Ab
section
variable {ext : Callee}
def mk0 (c : Config) (t : Track) : Maker := ⟨c, t, [], 0, 0, fun _ => 0, fun _ => 0, [], [], 0, 0, 0, 0, fun _ => 0, 0⟩
def inC (c : Config) (d : Int) : Int := w64 (c.circLo + rto d (w64 (w64 (c.circHi - c.circLo) + 1)))
def initV (d : Int) (m : Maker) : Int × Maker :=
  (rnd (rnd (rnd (rnd d))),
   { m with
     circ := fun w => if w = 1 then inC m.c (rnd (rnd d)) else if w = 0 then inC m.c d else m.circ w
     phase := fun w => if w = 1 then rto (rnd (rnd (rnd d))) (inC m.c (rnd (rnd d))) else if w = 0 then rto (rnd d) (inC m.c d) else m.phase w
     turned := fun w => if w = 1 then rto (rnd (rnd (rnd d))) (inC m.c (rnd (rnd d))) else if w = 0 then rto (rnd d) (inC m.c d) else m.turned w })
def tkIt : Nat → Nat → Int → Maker → Int × Maker
  | 0, _, d, m => (d, m)
  | n + 1, k, d, m => tkIt n (k + 1) (tickV d m k).1 (tickV d m k).2
def mkEnd (c : Config) (t : Track) (d : Int) (n : Nat) : Maker := (tkIt n 0 (initV (wayV d (mk0 c t)).1 (wayV d (mk0 c t)).2).1 (initV (wayV d (mk0 c t)).1 (wayV d (mk0 c t)).2).2).2
/-! The track's rules, one by one. -/
theorem nextGo_in {m : Nat} : ∀ {l : List Int} {q : Option Int}, nextGo m q l = true → ∀ x ∈ l, ∃ n : Nat, x = n ∧ n < m
  | [], _, _, x, hx => by cases hx
  | k :: r, q, h, x, hx => by
    simp only [nextGo] at h
    by_cases hb : nextBad m q k = true
    · rw [if_pos hb] at h; cases h
    rw [if_neg hb] at h
    rcases List.mem_cons.1 hx with rfl | hx
    · by_cases h1 : x < 0
      · exact (hb (by simp [nextBad, h1])).elim
      · by_cases h2 : (m : Int) ≤ x
        · exact (hb (by simp [nextBad, h1, h2])).elim
        · exact ⟨x.toNat, by omega, by omega⟩
    · exact nextGo_in h x hx
theorem segFirst_all {m : Nat} : ∀ {l : List Segment} {i : Nat}, (segFirst m i l).isNone = true → ∀ s ∈ l, segOk m s = true
  | [], _, _, s, hs => by cases hs
  | k :: r, i, h, s, hs => by
    simp only [segFirst] at h
    by_cases hb : segOk m k = true
    · rw [if_pos hb] at h
      rcases List.mem_cons.1 hs with rfl | hs
      · exact hb
      · exact segFirst_all h s hs
    · rw [if_neg hb] at h; cases h
theorem segOk_of {m : Nat} {s : Segment} (h : segOk m s = true) : 1 ≤ s.length ∧ s.length ≤ 1099511627776 ∧ nextGo m none s.next = true := by
  unfold segOk at h
  by_cases h1 : s.length < 1
  · rw [if_pos h1] at h; cases h
  rw [if_neg h1] at h
  by_cases h2 : 1099511627776 < s.length
  · rw [if_pos h2] at h; cases h
  rw [if_neg h2] at h
  by_cases h3 : ¬ gradeCheck s.pieces s.length = 0
  · rw [if_pos h3] at h; cases h
  rw [if_neg h3] at h
  by_cases h4 : 2 < (s.next.length : Int)
  · rw [if_pos h4] at h; cases h
  rw [if_neg h4] at h
  exact ⟨by omega, by omega, h⟩
theorem trk_segs {t : Track} (h : (trkCheck t).1 = 0) : 0 < t.segments.length ∧ ∀ s ∈ t.segments, segOk t.segments.length s = true := by
  unfold trkCheck at h
  by_cases h1 : t.segments.length = 0
  · rw [if_pos h1] at h; exact absurd h (by decide)
  rw [if_neg h1] at h
  by_cases h2 : 200 < (t.segments.length : Int)
  · rw [if_pos h2] at h; exact absurd h (by decide)
  rw [if_neg h2] at h
  by_cases h3 : 400 < (t.groups.length : Int)
  · rw [if_pos h3] at h; exact absurd h (by decide)
  rw [if_neg h3] at h
  by_cases h4 : (segFirst t.segments.length 0 t.segments).isNone = true
  · exact ⟨by omega, segFirst_all h4⟩
  · rw [if_neg h4] at h; exact absurd h (by simp)
theorem trk_next {t : Track} (h : (trkCheck t).1 = 0) : NextIn t := fun s hs => nextGo_in (segOk_of ((trk_segs h).2 s hs)).2.2
theorem idxGo_mem {x : Int} : ∀ {l : List Int} {i : Nat}, x ∈ l → 0 ≤ idxGo x i l
  | [], _, h => by cases h
  | k :: r, i, h => by
    simp only [idxGo]
    by_cases e : x = k
    · rw [if_pos e]; omega
    · rw [if_neg e]
      rcases List.mem_cons.1 h with h | h
      · exact (e h).elim
      · exact idxGo_mem h
/-! The way that is made. -/
theorem routeGo_app {t : Track} : ∀ {l : List Int} {q : Option Int} {x : Int}, routeGo t q l = true → routeBad t (match l.getLast? with
    | some z => some z
    | none => q) x = false → routeGo t q (l ++ [x]) = true
  | [], q, x, _, h => by
    simp only [List.nil_append, routeGo]
    simp only [List.getLast?_nil] at h
    rw [if_neg (by simp [h])]
  | k :: r, q, x, h, h1 => by
    simp only [List.cons_append, routeGo] at h ⊢
    by_cases hb : routeBad t q k = true
    · rw [if_pos hb] at h; cases h
    rw [if_neg hb] at h ⊢
    refine routeGo_app h ?_
    cases r with
    | nil => simpa using h1
    | cons z r => simpa [List.getLast?_cons] using h1
theorem wyGo_route {t : Track} (hx : NextIn t) : ∀ (n : Nat) (d : Int) (l : List Int), l ≠ [] → InT t l → routeGo t none l = true → routeGo t none (wyGo t n d l).2 = true
  | 0, d, l, _, _, h => h
  | n + 1, d, l, h1, h2, h => by
    simp only [wyGo]
    by_cases q : (l.length : Int) < 60
    · rw [if_pos q]
      obtain ⟨a, s, ha, hsg, hnx, hmem⟩ := last_in h2 h1
      rw [hnx]
      by_cases q2 : s.next.length = 0
      · rw [if_pos q2]; exact h
      · rw [if_neg q2]
        obtain ⟨q3, q4⟩ := rto_lt d (n := (s.next.length : Int)) (by omega)
        obtain ⟨z, hz⟩ := get_ex (l := s.next) (n := (rto d (s.next.length : Int)).toNat) (by omega)
        have hg : s.next.getD (rto d (s.next.length : Int)).toNat 0 = z := by rw [List.getD_eq_getElem?_getD, hz]; rfl
        rw [hg]
        have hzm := List.mem_of_getElem? hz
        obtain ⟨b, hb, hbl⟩ := hx s hmem z hzm
        refine wyGo_route hx n _ _ (by simp) (h2.app ⟨b, hb, hbl⟩) (routeGo_app h ?_)
        have hlast : l.getLast? = some (a : Int) := by
          rw [List.getLast?_eq_getElem?, last_get h1, ha]
        rw [hlast]
        simp only [routeBad]
        rw [if_neg (by omega), if_neg (by omega)]
        unfold follows
        rw [if_neg (by omega), Int.toNat_natCast, hsg]
        simp only
        have := idxGo_mem (i := 0) hzm
        simp [this]
    · rw [if_neg q]; exact h
theorem startGo_bd {t : Track} (ht : ∀ s ∈ t.segments, 1 ≤ s.length ∧ s.length ≤ 1099511627776) : ∀ {l : List Int} {a B : Int}, InT t l → 0 ≤ a → a ≤ B → B + 1099511627776 * l.length ≤ 1152921504606846976 → 0 ≤ startGo t a l ∧ startGo t a l ≤ B + 1099511627776 * l.length
  | [], a, B, _, h0, h1, _ => by simp [startGo]; omega
  | k :: r, a, B, hin, h0, h1, h2 => by
    obtain ⟨n, hn, hlt⟩ := hin k (by simp)
    obtain ⟨s, hs⟩ := get_ex hlt
    have hl : segLen t k = s.length := by subst hn; simp [segLen, hs]
    obtain ⟨b1, b2⟩ := ht s (List.mem_of_getElem? hs)
    simp only [List.length_cons] at h2 ⊢
    simp only [startGo, hl]
    rw [w64_fix (by omega) (by omega)]
    have := startGo_bd ht (l := r) (a := a + s.length) (B := B + 1099511627776) (fun x hx => hin x (by simp [hx])) (by omega) (by omega) (by omega)
    omega
theorem tkIt_ok {c : Config} {t : Track} (C : Cf c) (hf : (cfgFits c t).1 = 0) (ht : (trkCheck t).1 = 0) : ∀ (n k : Nat) (d : Int) (m : Maker), Fix c t m → Dyn c t m k → Fix c t (tkIt n k d m).2 ∧ Dyn c t (tkIt n k d m).2 (k + n) ∧ (tkIt n k d m).2.route = m.route
  | 0, k, d, m, F, D => ⟨F, D, rfl⟩
  | n + 1, k, d, m, F, D => by
    obtain ⟨F1, D1⟩ := step_ok C hf ht F D d
    have hr : (tickV d m k).2.route = m.route := by
      unfold tickV
      simp only
      show (readV _ _ _ _).2.route = m.route
      rw [(readV_same _ _ _ _).1.route, (tkF_same _ _ _ _).1.route, (spB_same d m).1.route]
    obtain ⟨a, b, e⟩ := tkIt_ok C hf ht n (k + 1) (tickV d m k).1 (tickV d m k).2 F1 D1
    simp only [tkIt]
    exact ⟨a, by rw [show k + (n + 1) = k + 1 + n by omega]; exact b, e.trans hr⟩
theorem fits_parts {c : Config} {t : Track} (h : (cfgFits c t).1 = 0) : (cfgCheck c).1 = 0 ∧ (trkCheck t).1 = 0 := by
  have h1 := fits_cfg h
  refine ⟨h1, ?_⟩
  unfold cfgFits at h
  rw [if_neg (fun e => e h1)] at h
  by_cases q : (trkCheck t).1 = 0
  · exact q
  · rw [if_pos q] at h; exact absurd h (by decide)
/-- What is made is admitted. -/
theorem made_ok {c : Config} {t : Track} (hf : (cfgFits c t).1 = 0) (d : Int) (n : Nat) (hn : n ≤ 4096) : admitCheck c t (scrOf (mkEnd c t d n)) = 0 ∧ (mkEnd c t d n).ticks.length = n ∧ (mkEnd c t d n).route.length ≤ 60 ∧ (∀ y ∈ (mkEnd c t d n).ticks, y.junk = []) ∧ ∀ r ∈ (mkEnd c t d n).reads, 0 ≤ r.cycle ∧ r.cycle < n := by
  obtain ⟨hcf, ht⟩ := fits_parts hf
  have C := cf_of hcf
  obtain ⟨t1, t2⟩ := trk_segs ht
  have hx := trk_next ht
  have tb : ∀ s ∈ t.segments, 1 ≤ s.length ∧ s.length ≤ 1099511627776 := fun s hs => ⟨(segOk_of (t2 s hs)).1, (segOk_of (t2 s hs)).2.1⟩
  have lo1 := C.lo1; have hi1 := C.hi1; have hi2 := C.hi2
  obtain ⟨q1, q2⟩ := rto_lt d (n := (t.segments.length : Int)) (by omega)
  obtain ⟨w1, w2, w3⟩ := way_in hx t1 d (rnd d)
  have wr : routeGo t none (wyGo t 60 (rnd d) [rto d t.segments.length]).2 = true := by
    refine wyGo_route hx 60 (rnd d) _ (by simp) ?_ ?_
    · intro x hx'
      simp only [List.mem_singleton] at hx'
      exact ⟨(rto d t.segments.length).toNat, by omega, by omega⟩
    · have hb : routeBad t none (rto d t.segments.length) = false := by
        unfold routeBad; rw [if_neg (by omega), if_neg (by omega)]
      simp only [routeGo]
      rw [if_neg (by simp [hb])]
  have sb := startGo_bd tb (l := (wyGo t 60 (rnd d) [rto d t.segments.length]).2) (a := 0) (B := 0) w2 (by omega) (by omega) (by omega)
  unfold mkEnd
  have e1 : (wayV d (mk0 c t)).2 = { mk0 c t with
     route := (wyGo t 60 (rnd d) [rto d t.segments.length]).2
     length := startGo t 0 (wyGo t 60 (rnd d) [rto d t.segments.length]).2
     start := rto (wyGo t 60 (rnd d) [rto d t.segments.length]).1 (if 1073741824 < w64 (startGo t 0 (wyGo t 60 (rnd d) [rto d t.segments.length]).2 + 1) then 1073741824 else w64 (startGo t 0 (wyGo t 60 (rnd d) [rto d t.segments.length]).2 + 1))
     at_ := rto (wyGo t 60 (rnd d) [rto d t.segments.length]).1 (if 1073741824 < w64 (startGo t 0 (wyGo t 60 (rnd d) [rto d t.segments.length]).2 + 1) then 1073741824 else w64 (startGo t 0 (wyGo t 60 (rnd d) [rto d t.segments.length]).2 + 1)) } := rfl
  have e2 : (wayV d (mk0 c t)).1 = rnd (wyGo t 60 (rnd d) [rto d t.segments.length]).1 := rfl
  rw [e1, e2]
  generalize wyGo t 60 (rnd d) [rto d t.segments.length] = W at *
  obtain ⟨d1, l⟩ := W
  simp only at w1 w2 w3 wr sb ⊢
  generalize hL : startGo t 0 l = L at *
  rw [w64_fix (x := L + 1) (by omega) (by omega)]
  have hst : 0 ≤ rto d1 (if 1073741824 < L + 1 then 1073741824 else L + 1) ∧ rto d1 (if 1073741824 < L + 1 then 1073741824 else L + 1) ≤ L := by
    obtain ⟨x1, x2⟩ := rto_lt d1 (n := if 1073741824 < L + 1 then 1073741824 else L + 1) (by split <;> omega)
    refine ⟨x1, ?_⟩
    split at x2 <;> split <;> omega
  generalize rto d1 (if 1073741824 < L + 1 then 1073741824 else L + 1) = S at *
  generalize rnd d1 = d2
  have hin : ∀ d, c.circLo ≤ inC c d ∧ inC c d ≤ c.circHi := by
    intro d
    unfold inC
    rw [w64_fix (x := c.circHi - c.circLo) (by omega) (by omega), w64_fix (x := c.circHi - c.circLo + 1) (by omega) (by omega)]
    obtain ⟨x1, x2⟩ := rto_lt d (n := c.circHi - c.circLo + 1) (by omega)
    rw [w64_fix (by omega) (by omega)]; omega
  have hwh : ∀ d d', wheelOk c (inC c d) (rto d' (inC c d)) = true := by
    intro d d'
    obtain ⟨x1, x2⟩ := hin d
    obtain ⟨x3, x4⟩ := rto_lt d' (n := inC c d) (by omega)
    unfold wheelOk spanHas
    rw [if_neg (by simp [x1, x2]), if_neg (by omega)]
    simp [x4]
  have F : Fix c t (initV d2 { mk0 c t with route := l, length := L, start := S, at_ := S }).2 := by
    refine ⟨rfl, rfl, hL.symm, sb.1, ?_, hst.1, hst.2, rfl, ?_⟩
    · show L ≤ _; omega
    · unfold wheelsOk
      show (wheelOk c (inC c d2) (rto (rnd d2) (inC c d2)) && wheelOk c (inC c (rnd (rnd d2))) (rto (rnd (rnd (rnd d2))) (inC c (rnd (rnd d2))))) = true
      rw [hwh, hwh]; rfl
  have D : Dyn c t (initV d2 { mk0 c t with route := l, length := L, start := S, at_ := S }).2 0 := by
    have ms1 := C.ms1; have ma1 := C.ma1
    refine ⟨rfl, rfl, rfl, ⟨hst.1, hst.2, ?_⟩, rfl, ⟨?_, ?_⟩, rfl, rfl, ?_, (fun y hy => by cases hy), (fun i hi => by omega), Int.le_refl _, (fun z hz => by cases hz), rfl, (fun r hr => by cases hr)⟩
    · show (if (0 : Int) < 0 then _ else brk c.maxAccel 0 ≤ L - S)
      rw [if_neg (by omega), brk_small (by omega) (by omega)]; omega
    · show -c.maxSpeed ≤ 0; omega
    · show 0 ≤ c.maxSpeed; omega
    · rintro w (rfl | rfl) <;> rfl
  obtain ⟨F1, D1, r1⟩ := tkIt_ok C hf ht n 0 _ _ F D
  generalize (tkIt n 0 (initV d2 { mk0 c t with route := l, length := L, start := S, at_ := S }).1 (initV d2 { mk0 c t with route := l, length := L, start := S, at_ := S }).2).2 = M at *
  rw [Nat.zero_add] at D1
  have r1 : M.route = l := r1
  refine ⟨?_, D1.tl, by rw [r1]; exact w3, D1.junk, D1.rc⟩
  have ms1 := C.ms1; have ms2 := C.ms2
  have hstart : startGo t 0 M.route = M.length := F1.len.symm
  unfold admitCheck
  rw [if_neg (fun e => e hf)]
  have h2 : routeOk t (scrOf M) = true := by
    unfold routeOk
    show (if M.route.length = 0 then false else if 400 < (M.route.length : Int) then false else routeGo t none M.route) = true
    rw [r1, if_neg (fun e => w1 (List.eq_nil_of_length_eq_zero e)), if_neg (by omega)]
    exact wr
  have h3 : onOk t (scrOf M) = true := by
    unfold onOk
    show (if 4096 < (M.ticks.length : Int) then false else if M.start < 0 then false else if startGo t 0 M.route < M.start then false else onGo (startGo t 0 M.route) M.start M.ticks) = true
    have := F1.st0; have := F1.st1
    rw [hstart, D1.tl, if_neg (by omega), if_neg (by omega), if_neg (by omega)]
    exact D1.on
  have h4 : speedsOk c (scrOf M) = true := by
    unfold speedsOk
    show (if within M.v0 c.maxSpeed = false then false else speedsGo c M.v0 M.ticks) = true
    rw [F1.v0, if_neg (by simp [in_within (x := 0) (f := c.maxSpeed) (by omega) (by omega) (by omega) (by omega)])]
    exact D1.sp
  have h7 : allGo c (scrOf M) (counts c (scrOf M) 0) (counts c (scrOf M) 1) 0 (scrOf M).ticks = true :=
    allGo_of _ 0 rfl fun k _ hk => D1.sens k (by rw [← D1.tl]; exact hk)
  have h9 : junkAll 0 (scrOf M).ticks = true := junkAll_nil D1.junk
  have h6 : numsGo c (scrOf M).ticks = true := D1.nums
  have h8 : readsGo c t (scrOf M) (placesGo (scrOf M).start (scrOf M).ticks) (-1) (scrOf M).reads = true := D1.rd
  rw [if_neg (by simp [h2]), if_neg (by simp [h3]), if_neg (by simp [h4]), if_neg (by simp [F1.wh]), if_neg (by simp [h6]), if_neg (by simp [h7]), if_neg (by simp [h8]), if_neg (by simp [h9])]

end
end Go.Ab
