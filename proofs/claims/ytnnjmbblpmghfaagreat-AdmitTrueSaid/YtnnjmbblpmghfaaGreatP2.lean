/-
  What functions of the program come to.
  Conditions: none.
-/
import Derived.Test.YtnnjmbblpmghfaaGreatSd
import Derived.Test.YtnnjmbblpmghfaaGreatP1
set_option linter.unusedSimpArgs false
set_option linter.unusedVariables false
namespace Go.Ab
section
variable {ext : Callee}
theorem w64_fix {x : Int} (h : -1152921504606846976 ≤ x) (h' : x ≤ 1152921504606846976) : w64 x = x := w64_id (by omega) (by omega)
theorem mul_bd {a b A B : Int} (hA : 0 ≤ A) (h1 : -A ≤ a) (h2 : a ≤ A) (h3 : 0 ≤ b) (h4 : b ≤ B) : -(A * B) ≤ a * b ∧ a * b ≤ A * B := by
  have e1 : A * b ≤ A * B := Int.mul_le_mul_of_nonneg_left h4 hA
  have e2 : a * b ≤ A * b := Int.mul_le_mul_of_nonneg_right h2 h3
  have e3 : -A * b ≤ a * b := Int.mul_le_mul_of_nonneg_right h1 h3
  rw [Int.neg_mul] at e3
  omega
theorem rDown_eq {a b : Int} (hb : 0 < b) (h1 : -1125899906842624 ≤ a) (h2 : a ≤ 1125899906842624) : rDown a b = down a b := by
  have hn : (a.tdiv b).natAbs ≤ a.natAbs := by
    rw [Int.natAbs_tdiv]; exact Nat.div_le_self _ _
  have e : w64 (a.tdiv b) = a.tdiv b := w64_fix (by omega) (by omega)
  unfold rDown down
  rw [e]
  split
  · rw [w64_fix (by omega) (by omega)]
  · rfl
theorem down_bd {a b : Int} (hb : 0 < b) (h1 : -1125899906842624 ≤ a) (h2 : a ≤ 1125899906842624) : -1125899906842625 ≤ down a b ∧ down a b ≤ 1125899906842624 := by
  have hn : (a.tdiv b).natAbs ≤ a.natAbs := by
    rw [Int.natAbs_tdiv]; exact Nat.div_le_self _ _
  unfold down
  split <;> omega
theorem rUp_eq {a b : Int} (hb : 0 < b) (h1 : -1125899906842624 ≤ a) (h2 : a ≤ 1125899906842624) : rUp a b = - down (-a) b := by
  unfold rUp
  rw [w64_fix (x := 0 - a) (by omega) (by omega), show (0 : Int) - a = -a by omega, rDown_eq hb (by omega) (by omega)]
  have := down_bd hb (a := -a) (by omega) (by omega)
  rw [w64_fix (by omega) (by omega)]; omega
theorem n16_eq {x : Int} : n16 x = cnt16 x := by
  have h2 := Int.tmod_lt_of_pos x (b := 65536) (by omega)
  have h3 := Int.lt_tmod_of_pos x (b := 65536) (by omega)
  unfold n16 cnt16
  rw [w64_fix (by omega) (by omega)]
theorem rDelta_eq (n m : Int) : rDelta (cnt16 n) (cnt16 m) = delta (cnt16 n) (cnt16 m) := by
  rw [cnt16_eq, cnt16_eq]
  unfold rDelta delta
  rw [w64_fix (x := m % 65536 - n % 65536) (by omega) (by omega), w64_fix (x := m % 65536 - n % 65536 + 65536) (by omega) (by omega)]
  have h : (m % 65536 - n % 65536 + 65536).tmod 65536 = (m % 65536 - n % 65536 + 65536) % 65536 := Int.tmod_eq_emod_of_nonneg (by omega)
  rw [h]
  split
  · rw [w64_fix (by omega) (by omega)]
  · rfl
theorem turn_bd (p : Int) (w : Nat) (hp : 0 ≤ p) (hp' : p ≤ 1024) : ∀ (r : List RTick) (a B : Int), (∀ k ∈ r, (-16777216 ≤ k.v ∧ k.v ≤ 16777216) ∧ -1099511627776 ≤ k.slip w ∧ k.slip w ≤ 1099511627776) → 0 ≤ B → -B ≤ a → a ≤ B → B + 2199023255552 * r.length ≤ 1125899906842624 →
    -(B + 2199023255552 * r.length) ≤ turnGo p w a r ∧ turnGo p w a r ≤ B + 2199023255552 * r.length
  | [], a, B, _, _, h1, h2, _ => by simp [turnGo]; omega
  | k :: r, a, B, hk, hB, h1, h2, h3 => by
    obtain ⟨⟨k1, k2⟩, k3, k4⟩ := hk k (by simp)
    have hm := mul_bd (a := k.v) (b := p) (A := 16777216) (B := 1024) (by omega) k1 k2 hp hp'
    rw [Int.mul_comm k.v p] at hm
    simp only [List.length_cons] at h3 ⊢
    have e1 : w64 (p * k.v) = p * k.v := w64_fix (by omega) (by omega)
    have e2 : w64 (a + p * k.v) = a + p * k.v := w64_fix (by omega) (by omega)
    have e3 : w64 (a + p * k.v + k.slip w) = a + p * k.v + k.slip w := w64_fix (by omega) (by omega)
    have ih := turn_bd p w hp hp' r (a + p * k.v + k.slip w) (B + 2199023255552) (fun x hx => hk x (by simp [hx])) (by omega) (by omega) (by omega) (by omega)
    simp only [turnGo, e1, e2, e3]
    omega
theorem turn_app (p : Int) (w : Nat) : ∀ (l r : List RTick) (a : Int), turnGo p w a (l ++ r) = turnGo p w (turnGo p w a l) r
  | [], r, a => rfl
  | k :: l, r, a => by simp only [List.cons_append, turnGo, turn_app p w l r]
theorem within_iff {x f : Int} (h : 0 ≤ f) (h' : f ≤ 1152921504606846976) (hw : within x f = true) : -f ≤ x ∧ x ≤ f := by
  simp only [within, Bool.and_eq_true, decide_eq_true_eq] at hw
  rw [w64_fix (by omega) (by omega)] at hw
  omega
theorem inR_iff {x a b : Int} (h : inR x a b = true) : a ≤ x ∧ x ≤ b := by
  simpa [inR] using h
/-- What is known of a script that is admitted. -/
structure Adm (c : Config) (t : Track) (s : Script) : Prop where
  p1 : 1 ≤ c.pulses
  p2 : c.pulses ≤ 1024
  lo1 : 131072 ≤ c.circLo
  lo2 : c.circLo ≤ 8388608
  hi1 : c.circLo ≤ c.circHi
  hi2 : c.circHi ≤ 8388608
  rb1 : 0 ≤ c.radBase
  rb2 : c.radBase ≤ 1048576
  rp1 : 0 ≤ c.radPart
  rp2 : c.radPart ≤ 65536
  ms1 : 1 ≤ c.maxSpeed
  ms2 : c.maxSpeed ≤ 16777216
  mp : c.maxSpeed * c.pulses ≤ 32000 * c.circLo
  circ : ∀ w, w = 0 ∨ w = 1 → c.circLo ≤ s.circ w ∧ s.circ w ≤ c.circHi ∧ 0 ≤ s.phase w ∧ s.phase w < s.circ w
  v : ∀ k ∈ s.ticks, -c.maxSpeed ≤ k.v ∧ k.v ≤ c.maxSpeed
  slip : ∀ k ∈ s.ticks, ∀ w, w = 0 ∨ w = 1 → -1099511627776 ≤ k.slip w ∧ k.slip w ≤ 1099511627776
  rad : ∀ k ∈ s.ticks, -1073741824 ≤ k.rad ∧ k.rad ≤ 1073741824
theorem speeds_v {c : Config} (h1 : 1 ≤ c.maxSpeed) (h2 : c.maxSpeed ≤ 16777216) : ∀ {r : List Tick} {v : Int}, speedsGo c v r = true → ∀ k ∈ r, -c.maxSpeed ≤ k.v ∧ k.v ≤ c.maxSpeed
  | [], _, _, k, hk => by cases hk
  | x :: r, v, h, k, hk => by
    simp only [speedsGo] at h
    by_cases q1 : within x.v c.maxSpeed = true
    · rw [if_neg (by simp [q1])] at h
      by_cases q2 : within (w64 (x.v - v)) c.maxAccel = true
      · rw [if_neg (by simp [q2])] at h
        rcases List.mem_cons.1 hk with rfl | hk
        · exact within_iff (by omega) (by omega) q1
        · exact speeds_v h1 h2 h k hk
      · rw [if_pos (by simpa using q2)] at h; cases h
    · rw [if_pos (by simpa using q1)] at h; cases h
theorem nums_k {c : Config} : ∀ {r : List Tick}, numsGo c r = true → ∀ k ∈ r, numsBad c k = false
  | [], _, k, hk => by cases hk
  | x :: r, h, k, hk => by
    simp only [numsGo] at h
    by_cases q : numsBad c x = true
    · rw [if_pos q] at h; cases h
    · rw [if_neg q] at h
      rcases List.mem_cons.1 hk with rfl | hk
      · simpa using q
      · exact nums_k h k hk
theorem nums_of {c : Config} {k : Tick} (h : numsBad c k = false) : within (k.slip 0) 1099511627776 = true ∧ within (k.slip 1) 1099511627776 = true ∧ within k.rad 1073741824 = true := by
  simp only [numsBad] at h
  repeat' split at h
  all_goals simp_all
theorem wheel_of {c : Config} {x p : Int} (h : wheelOk c x p = true) : c.circLo ≤ x ∧ x ≤ c.circHi ∧ 0 ≤ p ∧ p < x := by
  simp only [wheelOk, spanHas] at h
  repeat' split at h
  all_goals simp_all
theorem admit_parts {c : Config} {t : Track} {s : Script} (h : admitCheck c t s = 0) : (cfgFits c t).1 = 0 ∧ speedsOk c s = true ∧ wheelsOk c s = true ∧ numsGo c s.ticks = true := by
  simp only [admitCheck] at h
  repeat' split at h
  all_goals first | (exfalso; omega) | simp_all
theorem cfg_parts {c : Config} (h : (cfgCheck c).1 = 0) : inR c.pulses 1 1024 = true ∧ inR c.circLo 131072 8388608 = true ∧ inR c.circHi c.circLo 8388608 = true ∧ inR c.radBase 0 1048576 = true ∧ inR c.radPart 0 65536 = true ∧ inR c.maxSpeed 1 16777216 = true ∧ w64 (c.maxSpeed * c.pulses) ≤ w64 (32000 * c.circLo) := by
  unfold cfgCheck at h
  by_cases q0 : inR c.pulses 1 1024 = false
  · rw [if_pos q0] at h; exact absurd h (by decide)
  rw [if_neg q0] at h
  by_cases q1 : (inR c.circLo 131072 8388608 && inR c.circHi c.circLo 8388608) = false
  · rw [if_pos q1] at h; exact absurd h (by decide)
  rw [if_neg q1] at h
  by_cases q2 : ¬ w64 (16 * w64 (c.circHi - c.circLo)) ≤ c.circLo
  · rw [if_pos q2] at h; exact absurd h (by decide)
  rw [if_neg q2] at h
  by_cases q3 : (inR c.radBase 0 1048576 && inR c.radPart 0 65536) = false
  · rw [if_pos q3] at h; exact absurd h (by decide)
  rw [if_neg q3] at h
  by_cases q4 : inR c.accErr 0 1048576 = false
  · rw [if_pos q4] at h; exact absurd h (by decide)
  rw [if_neg q4] at h
  by_cases q5 : (inR c.maxSpeed 1 16777216 && inR c.maxAccel 1 1048576) = false
  · rw [if_pos q5] at h; exact absurd h (by decide)
  rw [if_neg q5] at h
  by_cases q6 : ¬ w64 (c.maxSpeed * c.pulses) ≤ w64 (32000 * c.circLo)
  · rw [if_pos q6] at h; exact absurd h (by decide)
  rw [if_neg q6] at h
  simp only [Bool.not_eq_false, Bool.and_eq_true, Decidable.not_not] at q0 q1 q3 q5 q6
  exact ⟨q0, q1.1, q1.2, q3.1, q3.2, q5.1, q6⟩
theorem fits_cfg {c : Config} {t : Track} (h : (cfgFits c t).1 = 0) : (cfgCheck c).1 = 0 := by
  simp only [cfgFits] at h
  by_cases q : (cfgCheck c).1 = 0
  · exact q
  · rw [if_pos q] at h; exact h
theorem adm_of {c : Config} {t : Track} {s : Script} (h : admitCheck c t s = 0) : Adm c t s := by
  obtain ⟨h1, h2, h3, h4⟩ := admit_parts h
  obtain ⟨a1, a2, a3, a4, a5, a6, a7⟩ := cfg_parts (fits_cfg h1)
  obtain ⟨p1, p2⟩ := inR_iff a1
  obtain ⟨lo1, lo2⟩ := inR_iff a2
  obtain ⟨hi1, hi2⟩ := inR_iff a3
  obtain ⟨rb1, rb2⟩ := inR_iff a4
  obtain ⟨rp1, rp2⟩ := inR_iff a5
  obtain ⟨ms1, ms2⟩ := inR_iff a6
  have hm := mul_bd (a := c.maxSpeed) (b := c.pulses) (A := 16777216) (B := 1024) (by omega) (by omega) ms2 (by omega) p2
  rw [w64_fix (by omega) (by omega), w64_fix (by omega) (by omega)] at a7
  have hv : speedsGo c s.v0 s.ticks = true := by
    simp only [speedsOk] at h2
    split at h2
    · cases h2
    · exact h2
  simp only [wheelsOk, Bool.and_eq_true] at h3
  refine ⟨p1, p2, lo1, lo2, hi1, hi2, rb1, rb2, rp1, rp2, ms1, ms2, a7, ?_, speeds_v ms1 ms2 hv, ?_, ?_⟩
  · rintro w (rfl | rfl)
    · exact wheel_of h3.1
    · exact wheel_of h3.2
  · intro k hk w hw
    obtain ⟨b0, b1, _⟩ := nums_of (nums_k h4 k hk)
    rcases hw with rfl | rfl
    · exact within_iff (by omega) (by omega) b0
    · exact within_iff (by omega) (by omega) b1
  · intro k hk
    exact within_iff (by omega) (by omega) (nums_of (nums_k h4 k hk)).2.2
theorem refErr_bd {c : Config} {t : Track} {s : Script} (A : Adm c t s) {r : Int} (h1 : -2147483648 ≤ r) (h2 : r ≤ 2147483648) : 0 ≤ refErr c r ∧ refErr c r ≤ 1073741824 := by
  have hA := A.rb1; have hB := A.rb2
  unfold refErr
  have hm : 0 ≤ (if r < 0 then w64 (0 - r) else r) ∧ (if r < 0 then w64 (0 - r) else r) ≤ 2147483648 := by
    split
    · rw [w64_fix (by omega) (by omega)]; omega
    · omega
  generalize (if r < 0 then w64 (0 - r) else r) = m at *
  obtain ⟨m1, m2⟩ := hm
  have hp := mul_bd (a := m) (b := c.radPart) (A := 2147483648) (B := 65536) (by omega) (by omega) m2 A.rp1 A.rp2
  have hp0 : 0 ≤ m * c.radPart := Int.mul_nonneg m1 A.rp1
  rw [w64_fix (x := m * c.radPart) (by omega) (by omega), Int.tdiv_eq_ediv_of_nonneg hp0, w64_fix (x := m * c.radPart / 1048576) (by omega) (by omega), w64_fix (by omega) (by omega)]
  omega
theorem radar_in {c : Config} {t : Track} {s : Script} (A : Adm c t s) {y : Tick} (hv1 : -16777216 ≤ y.v) (hv2 : y.v ≤ 16777216) (hr1 : -1073741824 ≤ y.rad) (hr2 : y.rad ≤ 1073741824) (hw : far y.rad (refErr c (w64 (y.v + y.rad))) = false) :
    (refRadar c (w64 (y.v + y.rad))).1 ≤ y.v ∧ y.v ≤ (refRadar c (w64 (y.v + y.rad))).2 := by
  rw [w64_fix (x := y.v + y.rad) (by omega) (by omega)] at hw ⊢
  obtain ⟨e1, e2⟩ := refErr_bd A (r := y.v + y.rad) (by omega) (by omega)
  unfold refRadar
  generalize refErr c (y.v + y.rad) = e at *
  simp only [far] at hw
  rw [w64_fix (x := 0 - e) (by omega) (by omega)] at hw
  simp only
  rw [w64_fix (x := y.v + y.rad - e) (by omega) (by omega), w64_fix (x := y.v + y.rad + e) (by omega) (by omega)]
  split at hw
  · cases hw
  · simp only [decide_eq_false_iff_not] at hw
    omega
theorem take_succ_get {α : Type} {l : List α} {k : Nat} {y : α} (h : l[k]? = some y) : l.take (k + 1) = l.take k ++ [y] := by
  rw [List.take_add_one, h]; rfl
theorem tacho_in {c : Config} {t : Track} {s : Script} (A : Adm c t s) (hn : s.ticks.length ≤ 120) {y : Tick} {k w : Nat} (hw : w = 0 ∨ w = 1) (hy : s.ticks[k]? = some y) (hs : y.slip w = 0) :
    (rSaysT c (refS s) w k).1 ≤ y.v ∧ y.v ≤ (rSaysT c (refS s) w k).2 := by
  obtain ⟨c1, c2, c3, c4⟩ := A.circ w hw
  have hms := A.ms2
  have hlo := A.lo1; have hlo2 := A.lo2; have hhi := A.hi2
  have hp1 := A.p1; have hp2 := A.p2
  obtain ⟨v1, v2⟩ := A.v y (List.mem_of_getElem? hy)
  -- how far the wheel has turned
  have hb : ∀ r : List RTick, (∀ x ∈ r, x ∈ (refS s).ticks) → r.length ≤ 120 → -(8388608 + 2199023255552 * (r.length : Int)) ≤ turnGo c.pulses w (s.phase w) r ∧ turnGo c.pulses w (s.phase w) r ≤ 8388608 + 2199023255552 * (r.length : Int) := by
    intro r hr hl
    refine turn_bd c.pulses w (by omega) hp2 r (s.phase w) 8388608 ?_ (by omega) (by omega) (by omega) (by omega)
    intro x hx
    obtain ⟨z, hz, rfl⟩ := List.mem_map.1 (hr x hx)
    have q1 := A.v z hz
    have q2 := A.slip z hz w hw
    exact ⟨⟨by show -16777216 ≤ z.v; omega, by show z.v ≤ 16777216; omega⟩, q2⟩
  have hT := hb ((refS s).ticks.take k) (fun x hx => List.mem_of_mem_take hx) (by simp [refS]; omega)
  have hlen : ((refS s).ticks.take k).length ≤ 120 := by simp [refS]; omega
  have hm := mul_bd (a := y.v) (b := c.pulses) (A := 16777216) (B := 1024) (by omega) (by omega) (by omega) (by omega) hp2
  rw [Int.mul_comm y.v c.pulses] at hm
  have hT1 : turnGo c.pulses w (s.phase w) ((refS s).ticks.take (k + 1)) = turnGo c.pulses w (s.phase w) ((refS s).ticks.take k) + c.pulses * y.v := by
    rw [take_succ_get (refS_get hy), turn_app]
    simp only [turnGo]
    rw [show (refTick y).v = y.v from rfl, show (refTick y).slip w = 0 from hs, w64_fix (x := c.pulses * y.v) (by omega) (by omega), w64_fix (x := turnGo c.pulses w (s.phase w) ((refS s).ticks.take k) + c.pulses * y.v) (by omega) (by omega), w64_fix (by omega) (by omega), Int.add_zero]
  unfold rSaysT rCount
  rw [show (refS s).phase = s.phase from rfl, show (refS s).circ = s.circ from rfl, hT1]
  generalize turnGo c.pulses w (s.phase w) ((refS s).ticks.take k) = T at *
  have hc0 : 0 < s.circ w := by omega
  rw [rDown_eq hc0 (by omega) (by omega), rDown_eq hc0 (by omega) (by omega), n16_eq, n16_eq, rDelta_eq]
  -- what may be travelled in a cycle
  have hmp := A.mp
  have hway : -(32000 * s.circ w) ≤ c.pulses * y.v ∧ c.pulses * y.v ≤ 32000 * s.circ w := by
    have e1 : c.pulses * y.v ≤ c.pulses * c.maxSpeed := Int.mul_le_mul_of_nonneg_left v2 (by omega)
    have e2 : c.pulses * -c.maxSpeed ≤ c.pulses * y.v := Int.mul_le_mul_of_nonneg_left v1 (by omega)
    rw [Int.mul_neg] at e2
    rw [Int.mul_comm c.maxSpeed c.pulses] at hmp
    omega
  have hnear := count_near (t0 := T) (t1 := T + c.pulses * y.v) (w := c.pulses * y.v) hc0 rfl hway.1 hway.2
  rw [delta_cnt hnear.1 hnear.2]
  have hbet := way_between (t0 := T) (t1 := T + c.pulses * y.v) (w := c.pulses * y.v) hc0 rfl
  generalize down (T + c.pulses * y.v) (s.circ w) - down T (s.circ w) = D at *
  have hp0 : 0 < c.pulses := by omega
  have l1 := tacho_lo (v := y.v) hp0 c1 c2 hbet.1
  have l2 := tacho_hi (v := y.v) hp0 c1 c2 hbet.2
  have b1 := mul_bd (a := D - 1) (b := c.circHi) (A := 32002) (B := 8388608) (by omega) (by omega) (by omega) (by omega) hhi
  have b2 := mul_bd (a := D - 1) (b := c.circLo) (A := 32002) (B := 8388608) (by omega) (by omega) (by omega) (by omega) hlo2
  have b3 := mul_bd (a := D + 1) (b := c.circHi) (A := 32002) (B := 8388608) (by omega) (by omega) (by omega) (by omega) hhi
  have b4 := mul_bd (a := D + 1) (b := c.circLo) (A := 32002) (B := 8388608) (by omega) (by omega) (by omega) (by omega) hlo2
  unfold rTacho
  simp only
  rw [w64_fix (x := D - 1) (by omega) (by omega), w64_fix (x := D + 1) (by omega) (by omega), w64_fix (x := (D - 1) * c.circHi) (by omega) (by omega), w64_fix (x := (D - 1) * c.circLo) (by omega) (by omega), w64_fix (x := (D + 1) * c.circHi) (by omega) (by omega), w64_fix (x := (D + 1) * c.circLo) (by omega) (by omega)]
  rw [rDown_eq hp0 (by omega) (by omega), rDown_eq hp0 (by omega) (by omega), rUp_eq hp0 (by omega) (by omega), rUp_eq hp0 (by omega) (by omega)]
  exact ⟨l1, l2⟩
theorem not_dec {p : Prop} [Decidable p] {q : Bool} (h : (if (0 : Nat) = 2 then q else decide (¬ p)) = false) : p := by
  rw [if_neg (by decide)] at h
  exact Decidable.not_not.1 (of_decide_eq_false h)
theorem not_dec1 {p : Prop} [Decidable p] {q : Bool} (h : (if (1 : Nat) = 2 then q else decide (¬ p)) = false) : p := by
  rw [if_neg (by decide)] at h
  exact Decidable.not_not.1 (of_decide_eq_false h)
theorem law8 (c : Config) (t : Track) (s : Script) (hg : great t s = false) (ha : admitCheck c t s = 0) : Law8 c t s := by
  have A := adm_of ha
  have hn : s.ticks.length ≤ 120 := by
    simp only [great] at hg
    repeat' split at hg
    all_goals first | cases hg | omega
  refine ⟨?_, ?_, ?_⟩
  · have := A.p1; omega
  · intro w hw
    have := A.circ w hw
    have := A.lo1
    omega
  · intro k y i hy hi hf hw
    rcases hi with rfl | rfl | rfl
    · simp only [sayP, wrongR] at hw ⊢
      exact tacho_in A hn (Or.inl rfl) hy (not_dec hw)
    · simp only [sayP, wrongR] at hw ⊢
      exact tacho_in A hn (Or.inr rfl) hy (not_dec1 hw)
    · have hm := List.mem_of_getElem? hy
      have v := A.v y hm
      have r := A.rad y hm
      have ms := A.ms2
      simp only [sayP, wrongR, if_true] at hw ⊢
      exact radar_in A (by omega) (by omega) r.1 r.2 hw

end
end Go.Ab
