/-
  What functions of the program come to.
  Conditions: none.
-/
import Derived.Test.YtnnjmbblpmghfaaGreatSd
import Derived.Test.YtnnjmbblpmghfaaGreatP1
import Derived.Test.YtnnjmbblpmghfaaGreatSf
set_option linter.unusedSimpArgs false
set_option linter.unusedVariables false
namespace Go.Ab
section
variable {ext : Callee}
theorem w64_fix {x : Int} (h : -1152921504606846976 ≤ x) (h' : x ≤ 1152921504606846976) : w64 x = x := w64_id (by omega) (by omega)
theorem mul_bd {a b A B : Int} (hA : 0 ≤ A) (h1 : -A ≤ a) (h2 : a ≤ A) (h3 : 0 ≤ b) (h4 : b ≤ B) : -(A * B) ≤ a * b ∧ a * b ≤ A * B := by
  have e1 : A * b ≤ A * B := Int.mul_le_mul_of_nonneg_left h4 hA
  have e2 : a * b ≤ A * b := Int.mul_le_mul_of_nonneg_right h2 h3
  have e3 : -A * b ≤ a * b := Int.mul_le_mul_of_nonneg_right h1 h3
  rw [Int.neg_mul] at e3
  omega
theorem rDown_eq {a b : Int} (hb : 0 < b) (h1 : -1125899906842624 ≤ a) (h2 : a ≤ 1125899906842624) : rDown a b = down a b := by
  have hn : (a.tdiv b).natAbs ≤ a.natAbs := by
    rw [Int.natAbs_tdiv]; exact Nat.div_le_self _ _
  have e : w64 (a.tdiv b) = a.tdiv b := w64_fix (by omega) (by omega)
  unfold rDown down
  rw [e]
  split
  · rw [w64_fix (by omega) (by omega)]
  · rfl
theorem down_bd {a b : Int} (hb : 0 < b) (h1 : -1125899906842624 ≤ a) (h2 : a ≤ 1125899906842624) : -1125899906842625 ≤ down a b ∧ down a b ≤ 1125899906842624 := by
  have hn : (a.tdiv b).natAbs ≤ a.natAbs := by
    rw [Int.natAbs_tdiv]; exact Nat.div_le_self _ _
  unfold down
  split <;> omega
theorem rUp_eq {a b : Int} (hb : 0 < b) (h1 : -1125899906842624 ≤ a) (h2 : a ≤ 1125899906842624) : rUp a b = - down (-a) b := by
  unfold rUp
  rw [w64_fix (x := 0 - a) (by omega) (by omega), show (0 : Int) - a = -a by omega, rDown_eq hb (by omega) (by omega)]
  have := down_bd hb (a := -a) (by omega) (by omega)
  rw [w64_fix (by omega) (by omega)]; omega
theorem n16_eq {x : Int} : n16 x = cnt16 x := by
  have h2 := Int.tmod_lt_of_pos x (b := 65536) (by omega)
  have h3 := Int.lt_tmod_of_pos x (b := 65536) (by omega)
  unfold n16 cnt16
  rw [w64_fix (by omega) (by omega)]
theorem rDelta_eq (n m : Int) : rDelta (cnt16 n) (cnt16 m) = delta (cnt16 n) (cnt16 m) := by
  rw [cnt16_eq, cnt16_eq]
  unfold rDelta delta
  rw [w64_fix (x := m % 65536 - n % 65536) (by omega) (by omega), w64_fix (x := m % 65536 - n % 65536 + 65536) (by omega) (by omega)]
  have h : (m % 65536 - n % 65536 + 65536).tmod 65536 = (m % 65536 - n % 65536 + 65536) % 65536 := Int.tmod_eq_emod_of_nonneg (by omega)
  rw [h]
  split
  · rw [w64_fix (by omega) (by omega)]
  · rfl
theorem turn_bd (p : Int) (w : Nat) (hp : 0 ≤ p) (hp' : p ≤ 1024) : ∀ (r : List RTick) (a B : Int), (∀ k ∈ r, (-16777216 ≤ k.v ∧ k.v ≤ 16777216) ∧ -1099511627776 ≤ k.slip w ∧ k.slip w ≤ 1099511627776) → 0 ≤ B → -B ≤ a → a ≤ B → B + 2199023255552 * r.length ≤ 1125899906842624 →
    -(B + 2199023255552 * r.length) ≤ turnGo p w a r ∧ turnGo p w a r ≤ B + 2199023255552 * r.length
  | [], a, B, _, _, h1, h2, _ => by simp [turnGo]; omega
  | k :: r, a, B, hk, hB, h1, h2, h3 => by
    obtain ⟨⟨k1, k2⟩, k3, k4⟩ := hk k (by simp)
    have hm := mul_bd (a := k.v) (b := p) (A := 16777216) (B := 1024) (by omega) k1 k2 hp hp'
    rw [Int.mul_comm k.v p] at hm
    simp only [List.length_cons] at h3 ⊢
    have e1 : w64 (p * k.v) = p * k.v := w64_fix (by omega) (by omega)
    have e2 : w64 (a + p * k.v) = a + p * k.v := w64_fix (by omega) (by omega)
    have e3 : w64 (a + p * k.v + k.slip w) = a + p * k.v + k.slip w := w64_fix (by omega) (by omega)
    have ih := turn_bd p w hp hp' r (a + p * k.v + k.slip w) (B + 2199023255552) (fun x hx => hk x (by simp [hx])) (by omega) (by omega) (by omega) (by omega)
    simp only [turnGo, e1, e2, e3]
    omega
theorem turn_app (p : Int) (w : Nat) : ∀ (l r : List RTick) (a : Int), turnGo p w a (l ++ r) = turnGo p w (turnGo p w a l) r
  | [], r, a => rfl
  | k :: l, r, a => by simp only [List.cons_append, turnGo, turn_app p w l r]
theorem within_iff {x f : Int} (h : 0 ≤ f) (h' : f ≤ 1152921504606846976) (hw : within x f = true) : -f ≤ x ∧ x ≤ f := by
  simp only [within, Bool.and_eq_true, decide_eq_true_eq] at hw
  rw [w64_fix (by omega) (by omega)] at hw
  omega
theorem inR_iff {x a b : Int} (h : inR x a b = true) : a ≤ x ∧ x ≤ b := by
  simpa [inR] using h
/-- What is known of a script that is admitted. -/
structure Adm (c : Config) (t : Track) (s : Script) : Prop where
  p1 : 1 ≤ c.pulses
  p2 : c.pulses ≤ 1024
  lo1 : 131072 ≤ c.circLo
  lo2 : c.circLo ≤ 8388608
  hi1 : c.circLo ≤ c.circHi
  hi2 : c.circHi ≤ 8388608
  rb1 : 0 ≤ c.radBase
  rb2 : c.radBase ≤ 1048576
  rp1 : 0 ≤ c.radPart
  rp2 : c.radPart ≤ 65536
  ms1 : 1 ≤ c.maxSpeed
  ms2 : c.maxSpeed ≤ 16777216
  mp : c.maxSpeed * c.pulses ≤ 32000 * c.circLo
  circ : ∀ w, w = 0 ∨ w = 1 → c.circLo ≤ s.circ w ∧ s.circ w ≤ c.circHi ∧ 0 ≤ s.phase w ∧ s.phase w < s.circ w
  v : ∀ k ∈ s.ticks, -c.maxSpeed ≤ k.v ∧ k.v ≤ c.maxSpeed
  slip : ∀ k ∈ s.ticks, ∀ w, w = 0 ∨ w = 1 → -1099511627776 ≤ k.slip w ∧ k.slip w ≤ 1099511627776
  rad : ∀ k ∈ s.ticks, -1073741824 ≤ k.rad ∧ k.rad ≤ 1073741824
theorem speeds_v {c : Config} (h1 : 1 ≤ c.maxSpeed) (h2 : c.maxSpeed ≤ 16777216) : ∀ {r : List Tick} {v : Int}, speedsGo c v r = true → ∀ k ∈ r, -c.maxSpeed ≤ k.v ∧ k.v ≤ c.maxSpeed
  | [], _, _, k, hk => by cases hk
  | x :: r, v, h, k, hk => by
    simp only [speedsGo] at h
    by_cases q1 : within x.v c.maxSpeed = true
    · rw [if_neg (by simp [q1])] at h
      by_cases q2 : within (w64 (x.v - v)) c.maxAccel = true
      · rw [if_neg (by simp [q2])] at h
        rcases List.mem_cons.1 hk with rfl | hk
        · exact within_iff (by omega) (by omega) q1
        · exact speeds_v h1 h2 h k hk
      · rw [if_pos (by simpa using q2)] at h; cases h
    · rw [if_pos (by simpa using q1)] at h; cases h
theorem nums_k {c : Config} : ∀ {r : List Tick}, numsGo c r = true → ∀ k ∈ r, numsBad c k = false
  | [], _, k, hk => by cases hk
  | x :: r, h, k, hk => by
    simp only [numsGo] at h
    by_cases q : numsBad c x = true
    · rw [if_pos q] at h; cases h
    · rw [if_neg q] at h
      rcases List.mem_cons.1 hk with rfl | hk
      · simpa using q
      · exact nums_k h k hk
theorem nums_of {c : Config} {k : Tick} (h : numsBad c k = false) : within (k.slip 0) 1099511627776 = true ∧ within (k.slip 1) 1099511627776 = true ∧ within k.rad 1073741824 = true := by
  simp only [numsBad] at h
  repeat' split at h
  all_goals simp_all
theorem wheel_of {c : Config} {x p : Int} (h : wheelOk c x p = true) : c.circLo ≤ x ∧ x ≤ c.circHi ∧ 0 ≤ p ∧ p < x := by
  simp only [wheelOk, spanHas] at h
  repeat' split at h
  all_goals simp_all
theorem cfg_parts {c : Config} (h : (cfgCheck c).1 = 0) : inR c.pulses 1 1024 = true ∧ inR c.circLo 131072 8388608 = true ∧ inR c.circHi c.circLo 8388608 = true ∧ inR c.radBase 0 1048576 = true ∧ inR c.radPart 0 65536 = true ∧ inR c.maxSpeed 1 16777216 = true ∧ w64 (c.maxSpeed * c.pulses) ≤ w64 (32000 * c.circLo) := by
  unfold cfgCheck at h
  by_cases q0 : inR c.pulses 1 1024 = false
  · rw [if_pos q0] at h; exact absurd h (by decide)
  rw [if_neg q0] at h
  by_cases q1 : (inR c.circLo 131072 8388608 && inR c.circHi c.circLo 8388608) = false
  · rw [if_pos q1] at h; exact absurd h (by decide)
  rw [if_neg q1] at h
  by_cases q2 : ¬ w64 (16 * w64 (c.circHi - c.circLo)) ≤ c.circLo
  · rw [if_pos q2] at h; exact absurd h (by decide)
  rw [if_neg q2] at h
  by_cases q3 : (inR c.radBase 0 1048576 && inR c.radPart 0 65536) = false
  · rw [if_pos q3] at h; exact absurd h (by decide)
  rw [if_neg q3] at h
  by_cases q4 : inR c.accErr 0 1048576 = false
  · rw [if_pos q4] at h; exact absurd h (by decide)
  rw [if_neg q4] at h
  by_cases q5 : (inR c.maxSpeed 1 16777216 && inR c.maxAccel 1 1048576) = false
  · rw [if_pos q5] at h; exact absurd h (by decide)
  rw [if_neg q5] at h
  by_cases q6 : ¬ w64 (c.maxSpeed * c.pulses) ≤ w64 (32000 * c.circLo)
  · rw [if_pos q6] at h; exact absurd h (by decide)
  rw [if_neg q6] at h
  simp only [Bool.not_eq_false, Bool.and_eq_true, Decidable.not_not] at q0 q1 q3 q5 q6
  exact ⟨q0, q1.1, q1.2, q3.1, q3.2, q5.1, q6⟩
theorem fits_cfg {c : Config} {t : Track} (h : (cfgFits c t).1 = 0) : (cfgCheck c).1 = 0 := by
  simp only [cfgFits] at h
  by_cases q : (cfgCheck c).1 = 0
  · exact q
  · rw [if_pos q] at h; exact h
theorem refErr_bd {c : Config} {t : Track} {s : Script} (A : Adm c t s) {r : Int} (h1 : -2147483648 ≤ r) (h2 : r ≤ 2147483648) : 0 ≤ refErr c r ∧ refErr c r ≤ 1073741824 := by
  have hA := A.rb1; have hB := A.rb2
  unfold refErr
  have hm : 0 ≤ (if r < 0 then w64 (0 - r) else r) ∧ (if r < 0 then w64 (0 - r) else r) ≤ 2147483648 := by
    split
    · rw [w64_fix (by omega) (by omega)]; omega
    · omega
  generalize (if r < 0 then w64 (0 - r) else r) = m at *
  obtain ⟨m1, m2⟩ := hm
  have hp := mul_bd (a := m) (b := c.radPart) (A := 2147483648) (B := 65536) (by omega) (by omega) m2 A.rp1 A.rp2
  have hp0 : 0 ≤ m * c.radPart := Int.mul_nonneg m1 A.rp1
  rw [w64_fix (x := m * c.radPart) (by omega) (by omega), Int.tdiv_eq_ediv_of_nonneg hp0, w64_fix (x := m * c.radPart / 1048576) (by omega) (by omega), w64_fix (by omega) (by omega)]
  omega
theorem take_succ_get {α : Type} {l : List α} {k : Nat} {y : α} (h : l[k]? = some y) : l.take (k + 1) = l.take k ++ [y] := by
  rw [List.take_add_one, h]; rfl
end
end Go.Ab
namespace Go.Ab
section
variable {ext : Callee}
theorem far_within (x m : Int) : far x m = !(within x m) := by
  unfold far within
  generalize w64 (0 - m) = z
  by_cases h1 : x < z
  · have : ¬ z ≤ x := by omega
    simp [h1, this]
  · have h1' : z ≤ x := by omega
    by_cases h2 : m < x
    · have : ¬ x ≤ m := by omega
      simp [h1, h1', h2, this]
    · have : x ≤ m := by omega
      simp [h1, h1', h2, this]
theorem on_same (len : Int) : ∀ (r : List Tick) (a : Int), refOnGo len a (r.map refTick) = onGo len a r
  | [], a => rfl
  | k :: r, a => by
    simp only [List.map_cons, refOnGo, onGo, far_within, show (refTick k).v = k.v from rfl, on_same len r]
    by_cases h : within k.v len = true <;> simp [h]
theorem onOk_same (t : Track) (s : Script) : refOn t (refS s) = onOk t s := by
  unfold refOn onOk
  simp only [show (refS s).ticks = s.ticks.map refTick from rfl, show (refS s).start = s.start from rfl, show (refS s).route = s.route from rfl, List.length_map, on_same]
theorem speedsGo_same (c : Config) : ∀ (r : List Tick) (v : Int), refSpeedsGo c v (r.map refTick) = speedsGo c v r
  | [], v => rfl
  | k :: r, v => by
    simp only [List.map_cons, refSpeedsGo, speedsGo, far_within, show (refTick k).v = k.v from rfl, speedsGo_same c r]
    by_cases h1 : within k.v c.maxSpeed = true <;> by_cases h2 : within (w64 (k.v - v)) c.maxAccel = true <;> simp [h1, h2]
theorem speedsOk_same (c : Config) (s : Script) : refSpeeds c (refS s) = speedsOk c s := by
  unfold refSpeeds speedsOk
  simp only [show (refS s).ticks = s.ticks.map refTick from rfl, show (refS s).v0 = s.v0 from rfl, far_within, speedsGo_same]
  by_cases h : within s.v0 c.maxSpeed = true <;> simp [h]
theorem numsGo_same (c : Config) : ∀ (r : List Tick), refNumsGo c (r.map refTick) = numsGo c r
  | [] => rfl
  | k :: r => by
    simp only [List.map_cons, refNumsGo, numsGo, refNumBad, numsBad, far_within, show (refTick k).slip = k.slip from rfl, show (refTick k).rad = k.rad from rfl, show (refTick k).acc = k.acc from rfl, numsGo_same c r]
    by_cases h1 : within (k.slip 0) 1099511627776 = true <;> by_cases h2 : within (k.slip 1) 1099511627776 = true <;> by_cases h3 : within k.rad 1073741824 = true <;> simp [h1, h2, h3]
theorem wheel_same (c : Config) (x p : Int) : refWheelBad c x p = !(wheelOk c x p) := by
  unfold refWheelBad wheelOk spanHas
  by_cases h1 : x < c.circLo <;> by_cases h2 : c.circHi < x <;> by_cases h3 : p < 0 <;> by_cases h4 : x ≤ p <;> simp [h1, h2, h3, h4] <;> omega
theorem nums_same (c : Config) (s : Script) : refNums c (refS s) = if wheelsOk c s = false then 5 else if numsGo c s.ticks = false then 6 else 0 := by
  unfold refNums wheelsOk
  simp only [show (refS s).ticks = s.ticks.map refTick from rfl, show (refS s).circ = s.circ from rfl, show (refS s).phase = s.phase from rfl, wheel_same, numsGo_same]
  by_cases h1 : wheelOk c (s.circ 0) (s.phase 0) = true <;> by_cases h2 : wheelOk c (s.circ 1) (s.phase 1) = true <;> by_cases h3 : numsGo c s.ticks = true <;> simp [h1, h2, h3]
theorem route_same (t : Track) (s : Script) : refRoute t s.route = routeOk t s := by
  unfold refRoute routeOk
  by_cases h : s.route.length = 0
  · have : (s.route.length : Int) < 1 := by omega
    simp [h, this]
  · have : ¬ (s.route.length : Int) < 1 := by omega
    simp only [h, this, if_false]
def lastId : Option Group → Int
  | none => 0
  | some z => z.id
theorem grpOk_id {t : Track} {q : Option Group} {k : Group} (h : grpOk t q k = true) : 1 ≤ k.id := by
  apply Classical.byContradiction; intro hh
  have : k.id < 1 := by omega
  simp [grpOk, grpBad, this] at h
theorem grpBad_same (n : Nat) (q : Option Group) (k : Group) (hq : ∀ z, q = some z → 1 ≤ z.id) : grpBad n q k = refGrpBad n (lastId q) k := by
  unfold grpBad refGrpBad
  cases q with
  | none =>
    simp only [lastId]
    by_cases g1 : k.id < 1
    · have : k.id ≤ 0 := by omega
      simp [g1, this]
    · have : ¬ k.id ≤ 0 := by omega
      simp [g1, this]
  | some z =>
    have := hq z rfl
    simp only [lastId]
    by_cases g1 : k.id ≤ z.id
    · by_cases g2 : k.id < 1 <;> by_cases g3 : 65535 < k.id <;> simp [g1, g2, g3]
    · have g2 : ¬ k.id < 1 := by omega
      simp [g1, g2]
theorem grpIn_same (s : Segment) (k : Group) : refGrpOut s k = !(grpIn s k) := by
  unfold refGrpOut grpIn
  by_cases h1 : k.offset < 0 <;> by_cases h2 : s.length < k.offset <;> by_cases h3 : k.acc < 0 <;> by_cases h4 : 1048576 < k.acc <;> by_cases h5 : k.slack < 0 <;> by_cases h6 : 16777216 < k.slack <;> simp [h1, h2, h3, h4, h5, h6] <;> omega
theorem grpNo_same (t : Track) (q : Option Group) (k : Group) (hq : ∀ z, q = some z → 1 ≤ z.id) : refGrpNo t (lastId q) k = !(grpOk t q k) := by
  unfold refGrpNo grpOk
  rw [grpBad_same _ _ _ hq]
  cases refGrpBad t.segments.length (lastId q) k with
  | true => simp
  | false =>
    simp only [Bool.false_eq_true, if_false]
    cases t.segments[k.segment.toNat]? with
    | none => rfl
    | some s => exact grpIn_same s k
theorem grpFirst_same (t : Track) : ∀ (r : List Group) (i : Nat) (q : Option Group), (∀ z, q = some z → 1 ≤ z.id) → refGrpFirst t i (lastId q) r = grpFirst t i q r
  | [], i, q, _ => rfl
  | k :: r, i, q, hq => by
    simp only [refGrpFirst, grpFirst, grpNo_same t q k hq]
    by_cases h : grpOk t q k = true
    · have ih := grpFirst_same t r (i + 1) (some k) (fun z hz => by cases hz; exact grpOk_id h)
      simp only [lastId] at ih
      simp [h, ih]
    · simp [h]
theorem trk_same (t : Track) : refTrk t = trkCheck t := by
  unfold refTrk trkCheck
  have := grpFirst_same t t.groups 0 none (fun z hz => by cases hz)
  simp only [lastId] at this
  rw [this]
  by_cases h : t.segments.length = 0
  · have : (t.segments.length : Int) < 1 := by omega
    simp [h, this]
  · have : ¬ (t.segments.length : Int) < 1 := by omega
    simp only [h, this, if_false]

end
end Go.Ab
namespace Go.Ab
section
variable {ext : Callee}
/-- The ids rise. -/
def Rise (l : List Group) : Prop := ∀ (i j : Nat) x y, i < j → l[i]? = some x → l[j]? = some y → x.id < y.id
theorem rise_of_step {l : List Group} (h : ∀ (m : Nat) x y, l[m]? = some x → l[m + 1]? = some y → x.id < y.id) : Rise l := by
  intro i j x y hij hx hy
  obtain ⟨d, rfl⟩ : ∃ d, j = i + 1 + d := ⟨j - (i + 1), by omega⟩
  clear hij
  induction d generalizing y with
  | zero => exact h i x y hx hy
  | succ d ih =>
    have hlt := (List.getElem?_eq_some_iff.1 hy).1
    obtain ⟨z, hz⟩ := get_ex (l := l) (n := i + 1 + d) (by omega)
    have h1 := ih z hz
    have h2 := h (i + 1 + d) z y hz hy
    omega
theorem grpOk_rise {t : Track} {z k : Group} (h : grpOk t (some z) k = true) : z.id < k.id := by
  apply Classical.byContradiction; intro hh
  have : k.id ≤ z.id := by omega
  have hb : grpBad t.segments.length (some z) k = true := by
    simp only [grpBad]
    by_cases g1 : k.id < 1 <;> by_cases g2 : 65535 < k.id <;> simp [g1, g2, this]
  simp [grpOk, hb] at h
theorem grpFirst_step (t : Track) : ∀ (r : List Group) (i : Nat) (q : Option Group), t.groups.drop i = r → q = prevOf t.groups i → (grpFirst t i q r).isNone = true → ∀ (m : Nat) x y, i ≤ m + 1 → t.groups[m]? = some x → t.groups[m + 1]? = some y → x.id < y.id
  | [], i, q, hs, hq, hn, m, x, y, hm, hx, hy => by
    have h1 := List.drop_eq_nil_iff.1 hs
    have h2 := (List.getElem?_eq_some_iff.1 hy).1
    omega
  | k :: r, i, q, hs, hq, hn, m, x, y, hm, hx, hy => by
    obtain ⟨h1, h2, h3⟩ := dr_cons hs
    simp only [grpFirst] at hn
    by_cases hb : grpOk t q k = true
    · rw [if_pos hb] at hn
      by_cases hi : i = m + 1
      · subst hi
        rw [h1] at hy; cases hy
        rw [hq] at hb
        simp only [prevOf, hx] at hb
        exact grpOk_rise hb
      · exact grpFirst_step t r (i + 1) (some k) h3 h1.symm hn m x y (by omega) hx hy
    · rw [if_neg hb] at hn; cases hn
theorem trk_rise {t : Track} (h : (trkCheck t).1 = 0) : Rise t.groups := by
  have : (grpFirst t 0 none t.groups).isNone = true := by
    simp only [trkCheck] at h
    repeat' split at h
    all_goals (first | (simp_all; done) | assumption)
  exact rise_of_step fun m x y hx hy => grpFirst_step t t.groups 0 none rfl rfl this m x y (by omega) hx hy
theorem cmpI_lt (x y : Int) : (cmpI x y < 0) = (x < y) := by
  unfold cmpI; by_cases h : x < y
  · simp [h]
  · by_cases h2 : y < x <;> simp [h, h2]
theorem cmpI_eq (x y : Int) : (cmpI x y = 0) = (x = y) := by
  unfold cmpI; by_cases h : x < y
  · simp [h]; omega
  · by_cases h2 : y < x
    · simp [h, h2]; omega
    · simp [h, h2]; omega
/-- Where the search ends: all ahead are less, all behind are not. -/
theorem bsGo_spec {l : List Group} (hr : Rise l) (id : Int) : ∀ (n i j : Nat), j ≤ i + n → i ≤ j → j ≤ l.length → (∀ (m : Nat) x, m < i → l[m]? = some x → x.id < id) → (∀ (m : Nat) x, j ≤ m → l[m]? = some x → id ≤ x.id) →
    (∀ (m : Nat) x, m < bsGo l id n i j → l[m]? = some x → x.id < id) ∧ (∀ (m : Nat) x, bsGo l id n i j ≤ m → l[m]? = some x → id ≤ x.id)
  | 0, i, j, h, hij, hj, h1, h2 => by
    have : j = i := by omega
    subst this
    exact ⟨h1, h2⟩
  | n + 1, i, j, h, hij, hj, h1, h2 => by
    simp only [bsGo]
    by_cases hlt : i < j
    · rw [if_pos hlt]
      obtain ⟨g, hg⟩ := get_ex (l := l) (n := (i + j) / 2) (by omega)
      simp only [hg, cmpI_lt]
      by_cases hc : g.id < id
      · rw [if_pos hc]
        refine bsGo_spec hr id n _ _ (by omega) (by omega) hj (fun m x hm hx => ?_) h2
        by_cases e : m = (i + j) / 2
        · subst e; rw [hg] at hx; cases hx; exact hc
        · have := hr m ((i + j) / 2) x g (by omega) hx hg; omega
      · rw [if_neg hc]
        refine bsGo_spec hr id n _ _ (by omega) (by omega) (by omega) h1 (fun m x hm hx => ?_)
        by_cases e : m = (i + j) / 2
        · subst e; rw [hg] at hx; cases hx; omega
        · have := hr ((i + j) / 2) m g x (by omega) hg hx; omega
    · rw [if_neg hlt]
      have : j = i := by omega
      subst this
      exact ⟨h1, h2⟩
theorem findL_none {id : Int} : ∀ {r : List Group} {i : Nat}, (∀ k ∈ r, k.id ≠ id) → findL id i r = -1
  | [], i, _ => rfl
  | k :: r, i, h => by
    have : ¬ k.id = id := h k (by simp)
    simp only [findL, if_neg this]
    exact findL_none fun k hk => h k (by simp [hk])
theorem findL_at {id : Int} {l : List Group} (hr : Rise l) : ∀ {r : List Group} {i m : Nat} {x : Group}, l.drop i = r → i ≤ m → l[m]? = some x → x.id = id → findL id i r = m
  | [], i, m, x, hs, him, hx, hid => by
    have h1 := List.drop_eq_nil_iff.1 hs
    have h2 := (List.getElem?_eq_some_iff.1 hx).1
    omega
  | k :: r, i, m, x, hs, him, hx, hid => by
    obtain ⟨h1, h2, h3⟩ := dr_cons hs
    simp only [findL]
    by_cases hk : k.id = id
    · rw [if_pos hk]
      by_cases e : i = m
      · rw [e]
      · have := hr i m k x (by omega) h1 hx; omega
    · rw [if_neg hk]
      have : i ≠ m := by intro e; subst e; rw [h1] at hx; cases hx; exact hk hid
      exact findL_at hr h3 (by omega) hx hid
/-- The two searches find alike. -/
theorem find_same {l : List Group} (hr : Rise l) (id : Int) : ((find l id).2 = true ∧ findL id 0 l = ((find l id).1 : Nat)) ∨ ((find l id).2 = false ∧ findL id 0 l = -1) := by
  obtain ⟨s1, s2⟩ := bsGo_spec hr id l.length 0 l.length (by omega) (by omega) (by omega) (fun m x hm => by omega) (fun m x hm hx => by have := (List.getElem?_eq_some_iff.1 hx).1; omega)
  cases hf : (find l id).2 with
  | true =>
    obtain ⟨g, hg, hc⟩ := find_some hf
    rw [cmpI_eq] at hc
    exact Or.inl ⟨rfl, findL_at hr rfl (by omega) hg hc⟩
  | false =>
    refine Or.inr ⟨rfl, findL_none fun k hk hid => ?_⟩
    obtain ⟨m, hm⟩ := List.getElem?_of_mem hk
    simp only [find] at hf
    by_cases hlt : m < bsGo l id l.length 0 l.length
    · have := s1 m k hlt hm; omega
    · by_cases e : m = bsGo l id l.length 0 l.length
      · rw [← e, hm] at hf
        simp only [cmpI_eq] at hf
        simp [hid] at hf
      · have hlm := (List.getElem?_eq_some_iff.1 hm).1
        obtain ⟨z, hz⟩ := get_ex (l := l) (n := bsGo l id l.length 0 l.length) (by omega)
        have h1 := s2 _ z (Nat.le_refl _) hz
        have h2 := hr _ m z k (by omega) hz hm
        omega
theorem places_at : ∀ (r : List Tick) (a : Int) (k : Nat), k < r.length → (placesGo a r)[k]? = some (atGo a ((r.map refTick).take (k + 1)))
  | [], a, k, h => by simp at h
  | x :: r, a, 0, h => by simp [placesGo, atGo, refTick]
  | x :: r, a, k + 1, h => by
    simp only [placesGo, List.getElem?_cons_succ, List.map_cons, List.take_succ_cons, atGo]
    exact places_at r _ k (by simpa using h)

end
end Go.Ab
namespace Go.Ab
section
variable {ext : Callee}
theorem nominal_same {t : Track} (hr : Rise t.groups) (s : Script) (r : Read) : refNominal t (refS s) r = nominal t s r := by
  unfold refNominal nominal
  rw [show (refS s).route = s.route from rfl]
  rcases find_same hr r.group with ⟨h1, h2⟩ | ⟨h1, h2⟩
  · rw [h2]
    simp only [h1, nat_neg, if_false, Int.toNat_natCast, Bool.true_eq_false]
    rfl
  · rw [h2]
    simp only [h1]
    simp
def lastCyc : Option Read → Int
  | none => -1
  | some z => z.cycle
theorem refAt_0 (s : Script) : refAt (refS s) 0 = s.start := by simp [refAt, atGo, refS]
theorem refAt_s {s : Script} {k : Nat} (h : k < s.ticks.length) : (placesGo s.start s.ticks)[k]? = some (refAt (refS s) (k + 1)) := by
  rw [places_at _ _ _ h]; rfl
theorem read_same {t : Track} (hr : Rise t.groups) (c : Config) (s : Script) (q : Option Read) (k : Read) (hq : ∀ z, q = some z → 0 ≤ z.cycle) :
    readOk c t s (placesGo s.start s.ticks) k (lastCyc q) = if refReadBad s.ticks.length q k = true then false else refRead c t (refS s) k := by
  by_cases hc : k.cycle ≤ lastCyc q
  · have hb : refReadBad s.ticks.length q k = true := by
      unfold refReadBad
      cases q with
      | none => have : k.cycle < 0 := by simp only [lastCyc] at hc; omega
                simp [this]
      | some z => simp only [lastCyc] at hc
                  by_cases g1 : k.cycle < 0 <;> by_cases g2 : (s.ticks.length : Int) ≤ k.cycle <;> simp [g1, g2, hc]
    simp only [readOk, if_pos hc, hb, if_true]
  · have hpos : ¬ k.cycle < 0 := by
      cases q with
      | none => simp only [lastCyc] at hc; omega
      | some z => have := hq z rfl; simp only [lastCyc] at hc; omega
    by_cases hl : (s.ticks.length : Int) ≤ k.cycle
    · have hb : refReadBad s.ticks.length q k = true := by simp [refReadBad, hl]
      simp only [readOk, if_neg hc, if_pos hl, hb, if_true]
    · have hb : refReadBad s.ticks.length q k = false := by
        unfold refReadBad
        rw [if_neg hpos, if_neg hl]
        cases q with
        | none => rfl
        | some z => simp only [lastCyc] at hc; simp; omega
      obtain ⟨cy, ix, gr, pt⟩ := k
      simp only at hc hpos hl hb
      obtain ⟨m, rfl⟩ : ∃ m : Nat, cy = m := ⟨cy.toNat, by omega⟩
      have hm : m < s.ticks.length := by omega
      simp only [readOk, refRead, if_neg hc, if_neg hl, hb, Bool.false_eq_true, if_false, nominal_same hr, Int.toNat_natCast, refAt_s hm]
      by_cases hn : (nominal t s ⟨m, ix, gr, pt⟩).2 = false
      · rw [if_pos hn, if_pos hn]
      · rw [if_neg hn, if_neg hn]
        have hn : (nominal t s ⟨m, ix, gr, pt⟩).2 = true := by simpa using hn
        have hf := nominal_find hn
        rcases find_same hr gr with ⟨h1, h2⟩ | ⟨h1, h2⟩
        · rw [h2, Int.toNat_natCast]
          cases t.groups[(find t.groups gr).1]? with
          | none => rfl
          | some g =>
            cases m with
            | zero =>
              simp only [prevOf, refAt_0, far_within, Bool.not_not]
              all_goals (first | rfl | (congr; done))
            | succ j =>
              simp only [prevOf, refAt_s (show j < s.ticks.length by omega), far_within, Bool.not_not]
              all_goals (first | rfl | (congr; done))
        · simp only at hf; rw [h1] at hf; cases hf
theorem readsGo_same {t : Track} (hr : Rise t.groups) (c : Config) (s : Script) : ∀ (r : List Read) (q : Option Read), (∀ z, q = some z → 0 ≤ z.cycle) → refReadsGo c t (refS s) q r = readsGo c t s (placesGo s.start s.ticks) (lastCyc q) r
  | [], q, _ => rfl
  | k :: r, q, hq => by
    simp only [refReadsGo, readsGo, read_same hr c s q k hq, refS_len]
    by_cases hb : refReadBad s.ticks.length q k = true
    · simp [hb]
    · have hpos : 0 ≤ k.cycle := by
        apply Classical.byContradiction; intro hh
        exact hb (by have : k.cycle < 0 := by omega
                     simp [refReadBad, this])
      have ih := readsGo_same hr c s r (some k) (fun z hz => by cases hz; exact hpos)
      simp only [lastCyc] at ih
      by_cases hx : refRead c t (refS s) k = true <;> simp [hb, hx, ih]
theorem reads_same {t : Track} (hr : Rise t.groups) (c : Config) (s : Script) : refReads c t (refS s) = readsGo c t s (placesGo s.start s.ticks) (-1) s.reads :=
  readsGo_same hr c s s.reads none (fun z hz => by cases hz)

end
end Go.Ab
namespace Go.Ab
section
variable {ext : Callee}
def In (x : Int) (k : Span) : Prop := k.lo ≤ x ∧ x ≤ k.hi
theorem meet_ok {a b : Span} (h : (meet a b).2 = true) : ∀ x, In x (meet a b).1 ↔ In x a ∧ In x b := by
  intro x
  unfold meet spanBoth at h ⊢
  by_cases h1 : b.lo > a.lo <;> by_cases h2 : b.hi < a.hi <;> simp only [h1, h2, if_true, if_false] at h ⊢ <;> split at h <;> first | cases h | skip
  all_goals (rename_i hh; rw [if_neg hh]; simp only [In]; constructor <;> intro hx <;> omega)
theorem meet_no {a b : Span} (h : ¬ (meet a b).2 = true) : ∀ x, ¬ (In x a ∧ In x b) := by
  intro x hx
  apply h
  obtain ⟨⟨q1, q2⟩, q3, q4⟩ := hx
  unfold meet spanBoth
  by_cases h1 : b.lo > a.lo <;> by_cases h2 : b.hi < a.hi <;> simp only [h1, h2, if_true, if_false] <;> rw [if_neg (by simp; omega)]
theorem meet_right {a b : Span} (h : (meet a b).2 = true) : (meet a b).1.lo ≤ (meet a b).1.hi := by
  unfold meet spanBoth at h ⊢
  by_cases h1 : b.lo > a.lo <;> by_cases h2 : b.hi < a.hi <;> simp only [h1, h2, if_true, if_false] at h ⊢ <;> split at h <;> first | cases h | skip
  all_goals (rename_i hh; rw [if_neg hh]; simp at hh; simp only; omega)
theorem commonGo_iff : ∀ (r : List Span) (m : Span), m.lo ≤ m.hi → ((commonGo m r).2 = true ↔ ∃ x, In x m ∧ ∀ k ∈ r, In x k)
  | [], m, hm => by
    simp only [commonGo, true_iff]
    exact ⟨m.lo, ⟨Int.le_refl _, hm⟩, fun k hk => by cases hk⟩
  | k :: r, m, hm => by
    simp only [commonGo]
    by_cases h : (meet m k).2 = true
    · rw [if_pos h, commonGo_iff r _ (meet_right h)]
      constructor
      · rintro ⟨x, hx, hr⟩
        obtain ⟨h1, h2⟩ := (meet_ok h x).1 hx
        refine ⟨x, h1, fun z hz => ?_⟩
        rcases List.mem_cons.1 hz with rfl | hz
        · exact h2
        · exact hr z hz
      · rintro ⟨x, hx, hr⟩
        exact ⟨x, (meet_ok h x).2 ⟨hx, hr k (by simp)⟩, fun z hz => hr z (by simp [hz])⟩
    · rw [if_neg h]
      constructor
      · intro e; cases e
      · rintro ⟨x, hx, hr⟩
        exact (meet_no h x ⟨hx, hr k (by simp)⟩).elim
theorem common_iff (m : Span) (r : List Span) : (common (m :: r)).2 = true ↔ ∃ x, ∀ k ∈ m :: r, In x k := by
  simp only [common]
  by_cases hm : m.lo ≤ m.hi
  · have := commonGo_iff (m :: r) m hm
    by_cases h : (commonGo m (m :: r)).2 = true
    · rw [if_pos h]
      obtain ⟨x, _, hx⟩ := this.1 h
      exact ⟨fun _ => ⟨x, hx⟩, fun _ => rfl⟩
    · rw [if_neg h]
      constructor
      · intro e; cases e
      · rintro ⟨x, hx⟩
        exact (h (this.2 ⟨x, hx m (by simp), hx⟩)).elim
  · have h : ¬ (commonGo m (m :: r)).2 = true := by
      simp only [commonGo]
      have : ¬ (meet m m).2 = true := by
        unfold meet spanBoth
        simp only [gt_iff_lt, Int.lt_irrefl, if_false]
        rw [if_pos (by omega)]
        simp
      rw [if_neg this]
      simp
    rw [if_neg h]
    constructor
    · intro e; cases e
    · rintro ⟨x, hx⟩
      obtain ⟨h1, h2⟩ := hx m (by simp)
      omega
theorem many3 (a b c : Span) (x : Int) : (3 ≤ manyGo x 0 [a, b, c]) ↔ In x a ∧ In x b ∧ In x c := by
  have e1 : w64 (0 + 1) = 1 := by decide
  have e2 : w64 (1 + 1) = 2 := by decide
  have e3 : w64 (2 + 1) = 3 := by decide
  simp only [manyGo, In]
  by_cases a1 : a.lo ≤ x <;> by_cases a2 : x ≤ a.hi <;> by_cases b1 : b.lo ≤ x <;> by_cases b2 : x ≤ b.hi <;> by_cases c1 : c.lo ≤ x <;> by_cases c2 : x ≤ c.hi <;>
    simp only [a1, a2, b1, b2, c1, c2, if_true, if_false, e1, e2, e3, and_true, and_false, true_and, false_and] <;> decide
theorem byLo_any (l : List Span) (m : Int) : ∀ (r : List Span) (a : Int) (f : Bool), (byLoGo l m a f r).2 = true ↔ f = true ∨ ∃ k ∈ r, m ≤ manyGo k.lo 0 l
  | [], a, f => by simp [byLoGo]
  | k :: r, a, f => by
    simp only [byLoGo]
    by_cases h : m ≤ manyGo k.lo 0 l
    · have hr : f = true ∨ ∃ z ∈ k :: r, m ≤ manyGo z.lo 0 l := Or.inr ⟨k, by simp, h⟩
      have e : ∀ a', (byLoGo l m a' true r).2 = true := fun a' => (byLo_any l m r a' true).2 (Or.inl rfl)
      cases f with
      | false => simp only [h, if_true]; exact ⟨fun _ => hr, fun _ => e _⟩
      | true =>
        by_cases h2 : k.lo < a
        · simp only [h, h2, if_true, Bool.true_eq_false, if_false]; exact ⟨fun _ => Or.inl trivial, fun _ => e _⟩
        · simp only [h, h2, if_true, Bool.true_eq_false, if_false]; exact ⟨fun _ => Or.inl trivial, fun _ => e _⟩
    · rw [if_neg h, byLo_any l m r a f]
      simp [h]
theorem byHi_any (l : List Span) (m : Int) : ∀ (r : List Span) (a : Int) (f : Bool), (byHiGo l m a f r).2 = true ↔ f = true ∨ ∃ k ∈ r, m ≤ manyGo k.hi 0 l
  | [], a, f => by simp [byHiGo]
  | k :: r, a, f => by
    simp only [byHiGo]
    by_cases h : m ≤ manyGo k.hi 0 l
    · have hr : f = true ∨ ∃ z ∈ k :: r, m ≤ manyGo z.hi 0 l := Or.inr ⟨k, by simp, h⟩
      have e : ∀ a', (byHiGo l m a' true r).2 = true := fun a' => (byHi_any l m r a' true).2 (Or.inl rfl)
      cases f with
      | false => simp only [h, if_true]; exact ⟨fun _ => hr, fun _ => e _⟩
      | true =>
        by_cases h2 : a < k.hi
        · simp only [h, h2, if_true, Bool.true_eq_false, if_false]; exact ⟨fun _ => Or.inl trivial, fun _ => e _⟩
        · simp only [h, h2, if_true, Bool.true_eq_false, if_false]; exact ⟨fun _ => Or.inl trivial, fun _ => e _⟩
    · rw [if_neg h, byHi_any l m r a f]
      simp [h]
theorem by_iff (a b c : Span) : (by_ [a, b, c] 3).2 = true ↔ ∃ x, ∀ k ∈ [a, b, c], In x k := by
  have h0 : (by_ [a, b, c] 3).2 = true ↔ (byLoGo [a, b, c] 3 0 false [a, b, c]).2 = true ∧ (byHiGo [a, b, c] 3 0 false [a, b, c]).2 = true := by
    simp only [by_]
    by_cases h : (byLoGo [a, b, c] 3 0 false [a, b, c]).2 = true <;> simp [h]
  rw [h0, byLo_any, byHi_any]
  constructor
  · rintro ⟨h1, _⟩
    rcases h1 with h1 | ⟨k, _, hk⟩
    · cases h1
    · obtain ⟨q1, q2, q3⟩ := (many3 a b c k.lo).1 hk
      refine ⟨k.lo, fun z hz => ?_⟩
      simp only [List.mem_cons, List.not_mem_nil, or_false] at hz
      rcases hz with rfl | rfl | rfl <;> assumption
  · rintro ⟨x, hx⟩
    obtain ⟨a1, a2⟩ := hx a (by simp)
    obtain ⟨b1, b2⟩ := hx b (by simp)
    obtain ⟨c1, c2⟩ := hx c (by simp)
    constructor
    · refine Or.inr ?_
      by_cases h1 : b.lo ≤ a.lo ∧ c.lo ≤ a.lo
      · exact ⟨a, by simp, (many3 a b c a.lo).2 ⟨⟨by omega, by omega⟩, ⟨by omega, by omega⟩, ⟨by omega, by omega⟩⟩⟩
      · by_cases h2 : a.lo ≤ b.lo ∧ c.lo ≤ b.lo
        · exact ⟨b, by simp, (many3 a b c b.lo).2 ⟨⟨by omega, by omega⟩, ⟨by omega, by omega⟩, ⟨by omega, by omega⟩⟩⟩
        · exact ⟨c, by simp, (many3 a b c c.lo).2 ⟨⟨by omega, by omega⟩, ⟨by omega, by omega⟩, ⟨by omega, by omega⟩⟩⟩
    · refine Or.inr ?_
      by_cases h1 : a.hi ≤ b.hi ∧ a.hi ≤ c.hi
      · exact ⟨a, by simp, (many3 a b c a.hi).2 ⟨⟨by omega, by omega⟩, ⟨by omega, by omega⟩, ⟨by omega, by omega⟩⟩⟩
      · by_cases h2 : b.hi ≤ a.hi ∧ b.hi ≤ c.hi
        · exact ⟨b, by simp, (many3 a b c b.hi).2 ⟨⟨by omega, by omega⟩, ⟨by omega, by omega⟩, ⟨by omega, by omega⟩⟩⟩
        · exact ⟨c, by simp, (many3 a b c c.hi).2 ⟨⟨by omega, by omega⟩, ⟨by omega, by omega⟩, ⟨by omega, by omega⟩⟩⟩
theorem common_by (a b c : Span) : (common [a, b, c]).2 = (by_ [a, b, c] 3).2 := by
  rw [Bool.eq_iff_iff, common_iff, by_iff]

end
end Go.Ab
namespace Go.Ab
section
variable {ext : Callee}
theorem u64_def (x : Int) : u64 x = x % 18446744073709551616 := by
  simp only [u64, IntKind.wrap]; simp [IntKind.bits, IntKind.signed]
theorem u64_fix {x : Int} (h : 0 ≤ x) (h' : x < 18446744073709551616) : u64 x = x := by rw [u64_def]; omega
theorem bv_nat {x : Int} (h : 0 ≤ x) (h' : x < 18446744073709551616) : (BitVec.ofInt 64 x).toNat = x.toNat := by
  rw [BitVec.toNat_ofInt]
  omega
theorem iand_low {a : Int} (h : 0 ≤ a) (h' : a < 18446744073709551616) : iand .u64 a 4294967295 = a % 4294967296 := by
  have e : iand .u64 a 4294967295 = u64 ((BitVec.ofInt 64 a &&& BitVec.ofInt 64 4294967295).toNat : Nat) := rfl
  rw [e, BitVec.toNat_and, bv_nat h h', bv_nat (by omega) (by omega)]
  have e2 : (4294967295 : Int).toNat = 2 ^ 32 - 1 := rfl
  rw [e2, Nat.and_two_pow_sub_one_eq_mod]
  have e3 : ((a.toNat % 2 ^ 32 : Nat) : Int) = a % 4294967296 := by omega
  rw [e3, u64_fix (by omega) (by omega)]
theorem iand_one {a : Int} (h : 0 ≤ a) (h' : a < 18446744073709551616) : iand .u64 a 1 = a % 2 := by
  have e : iand .u64 a 1 = u64 ((BitVec.ofInt 64 a &&& BitVec.ofInt 64 1).toNat : Nat) := rfl
  rw [e, BitVec.toNat_and, bv_nat h h', bv_nat (by omega) (by omega)]
  have e2 : (1 : Int).toNat = 2 ^ 1 - 1 := rfl
  rw [e2, Nat.and_two_pow_sub_one_eq_mod]
  have e3 : ((a.toNat % 2 ^ 1 : Nat) : Int) = a % 2 := by omega
  rw [e3, u64_fix (by omega) (by omega)]
theorem ishr_32 {a : Int} (h : 0 ≤ a) : ishr .u64 a 32 = a / 4294967296 := by
  unfold ishr
  rw [show (2 : Int) ^ min (32 : Int).toNat IntKind.u64.bits = 4294967296 from by decide]
  exact Int.fdiv_eq_ediv_of_nonneg _ (by omega)
theorem ishl_32 (a : Int) : ishl .u64 a 32 = u64 (a * 4294967296) := by
  unfold ishl
  rw [show (2 : Int) ^ min (32 : Int).toNat IntKind.u64.bits = 4294967296 from by decide]
  rfl
theorem ior_add {a b : Int} {n : Nat} (ha : 0 ≤ a) (hb : 0 ≤ b) (hb' : b < ((2 ^ n : Nat) : Int)) (h : a * ((2 ^ n : Nat) : Int) + b < 18446744073709551616) : ior .u64 (a * ((2 ^ n : Nat) : Int)) b = a * ((2 ^ n : Nat) : Int) + b := by
  have hp : 0 ≤ a * ((2 ^ n : Nat) : Int) := Int.mul_nonneg ha (by omega)
  have e : ior .u64 (a * ((2 ^ n : Nat) : Int)) b = u64 ((BitVec.ofInt 64 (a * ((2 ^ n : Nat) : Int)) ||| BitVec.ofInt 64 b).toNat : Nat) := rfl
  rw [e, BitVec.toNat_or, bv_nat hp (by omega), bv_nat hb (by omega)]
  have e1 : (a * ((2 ^ n : Nat) : Int)).toNat = a.toNat <<< n := by
    rw [Nat.shiftLeft_eq, Int.toNat_mul ha (by omega)]; rfl
  have e2 := Nat.shiftLeft_add_eq_or_of_lt (b := b.toNat) (i := n) (by omega) a.toNat
  rw [e1, ← e2, ← e1]
  rw [show (((a * ((2 ^ n : Nat) : Int)).toNat + b.toNat : Nat) : Int) = a * ((2 ^ n : Nat) : Int) + b by omega]
  exact u64_fix (by omega) h
theorem wMul_eq {a b : Int} (ha : 0 ≤ a) (ha' : a < 18446744073709551616) (hb : 0 ≤ b) (hb' : b < 18446744073709551616) :
    (0 ≤ (wMul a b).hi ∧ (wMul a b).hi < 18446744073709551616) ∧ (0 ≤ (wMul a b).lo ∧ (wMul a b).lo < 18446744073709551616) ∧ (wMul a b).hi * 18446744073709551616 + (wMul a b).lo = a * b := by
  unfold wMul
  simp only [ishr_32 ha, ishr_32 hb, iand_low ha ha', iand_low hb hb']
  -- halves
  obtain ⟨a1, e1⟩ : ∃ a1, a1 = a / 4294967296 := ⟨_, rfl⟩
  obtain ⟨a0, e0⟩ : ∃ a0, a0 = a % 4294967296 := ⟨_, rfl⟩
  obtain ⟨b1, f1⟩ : ∃ b1, b1 = b / 4294967296 := ⟨_, rfl⟩
  obtain ⟨b0, f0⟩ : ∃ b0, b0 = b % 4294967296 := ⟨_, rfl⟩
  rw [← e1, ← e0, ← f1, ← f0]
  have ea : a = a1 * 4294967296 + a0 := by omega
  have eb : b = b1 * 4294967296 + b0 := by omega
  have ra1 : 0 ≤ a1 ∧ a1 ≤ 4294967295 := by omega
  have ra0 : 0 ≤ a0 ∧ a0 ≤ 4294967295 := by omega
  have rb1 : 0 ≤ b1 ∧ b1 ≤ 4294967295 := by omega
  have rb0 : 0 ≤ b0 ∧ b0 ≤ 4294967295 := by omega
  have eab : a * b = a1 * b1 * 18446744073709551616 + (a1 * b0) * 4294967296 + (a0 * b1) * 4294967296 + a0 * b0 := by
    rw [ea, eb]
    simp only [Int.add_mul, Int.mul_add]
    have : a1 * 4294967296 * (b1 * 4294967296) = a1 * b1 * 18446744073709551616 := by
      rw [Int.mul_assoc, ← Int.mul_assoc 4294967296 b1, Int.mul_comm 4294967296 b1, Int.mul_assoc b1, ← Int.mul_assoc a1]; rfl
    have : a1 * 4294967296 * b0 = a1 * b0 * 4294967296 := by rw [Int.mul_assoc, Int.mul_comm 4294967296 b0, ← Int.mul_assoc]
    have : a0 * (b1 * 4294967296) = a0 * b1 * 4294967296 := by rw [← Int.mul_assoc]
    omega
  have bd : ∀ x y : Int, 0 ≤ x ∧ x ≤ 4294967295 → 0 ≤ y ∧ y ≤ 4294967295 → 0 ≤ x * y ∧ x * y ≤ 18446744065119617025 := fun x y hx hy => by
    have h1 := mul_bd (a := x) (b := y) (A := 4294967295) (B := 4294967295) (by omega) (by omega) hx.2 hy.1 hy.2
    exact ⟨Int.mul_nonneg hx.1 hy.1, by omega⟩
  have k1 := bd a1 b1 ra1 rb1
  have k2 := bd a1 b0 ra1 rb0
  have k3 := bd a0 b1 ra0 rb1
  have k4 := bd a0 b0 ra0 rb0
  rw [eab]
  generalize a1 * b1 = p11 at *
  generalize a1 * b0 = p10 at *
  generalize a0 * b1 = p01 at *
  generalize a0 * b0 = p00 at *
  rw [u64_fix (x := p00) k4.1 (by omega), u64_fix (x := p10) k2.1 (by omega), u64_fix (x := p01) k3.1 (by omega), u64_fix (x := p11) k1.1 (by omega)]
  rw [ishr_32 k4.1, u64_fix (x := p10 + p00 / 4294967296) (by omega) (by omega)]
  rw [ishr_32 (a := p10 + p00 / 4294967296) (by omega), iand_low (a := p10 + p00 / 4294967296) (by omega) (by omega)]
  rw [u64_fix (x := p01 + (p10 + p00 / 4294967296) % 4294967296) (by omega) (by omega)]
  rw [ishr_32 (a := p01 + (p10 + p00 / 4294967296) % 4294967296) (by omega), ishl_32, iand_low (a := p00) k4.1 (by omega)]
  have e5 : u64 ((p01 + (p10 + p00 / 4294967296) % 4294967296) * 4294967296) = ((p01 + (p10 + p00 / 4294967296) % 4294967296) % 4294967296) * ((2 ^ 32 : Nat) : Int) := by
    rw [u64_def]; omega
  rw [e5, ior_add (n := 32) (by omega) (by omega) (by omega) (by omega)]
  rw [u64_fix (x := p11 + (p10 + p00 / 4294967296) / 4294967296) (by omega) (by omega), u64_fix (x := p11 + (p10 + p00 / 4294967296) / 4294967296 + (p01 + (p10 + p00 / 4294967296) % 4294967296) / 4294967296) (by omega) (by omega)]
  refine ⟨⟨by omega, by omega⟩, ⟨by omega, by omega⟩, by omega⟩

end
end Go.Ab
namespace Go.Ab
section
variable {ext : Callee}
def val (x : U128) : Int := x.hi * 18446744073709551616 + x.lo
structure Wf (x : U128) : Prop where
  h1 : 0 ≤ x.hi
  h2 : x.hi < 18446744073709551616
  l1 : 0 ≤ x.lo
  l2 : x.lo < 18446744073709551616
theorem ishr_nat {a : Int} (h : 0 ≤ a) {k : Nat} (hk : k ≤ 64) : ishr .u64 a (k : Int) = a / ((2 ^ k : Nat) : Int) := by
  unfold ishr
  have e : min ((k : Int)).toNat IntKind.u64.bits = k := by
    rw [Int.toNat_natCast]; exact Nat.min_eq_left hk
  rw [e, Int.fdiv_eq_ediv_of_nonneg _ (by
    have : (0 : Int) < 2 ^ k := Int.pow_pos (by omega)
    omega)]
  congr 1
  all_goals simp
theorem ishl_nat (a : Int) {k : Nat} (hk : k ≤ 64) : ishl .u64 a (k : Int) = u64 (a * ((2 ^ k : Nat) : Int)) := by
  unfold ishl
  have e : min ((k : Int)).toNat IntKind.u64.bits = k := by
    rw [Int.toNat_natCast]; exact Nat.min_eq_left hk
  rw [e]
  simp only [u64]
  congr 2
  all_goals simp
theorem wShl_1 {x : U128} (w : Wf x) (h : val x < 170141183460469231731687303715884105728) : Wf (wShl x 1) ∧ val (wShl x 1) = 2 * val x ∧ (wShl x 1).lo % 2 = 0 := by
  obtain ⟨h1, h2, l1, l2⟩ := w
  unfold val at h
  have e1 : wShl x 1 = ⟨ior .u64 (ishl .u64 x.hi ((1 : Nat) : Int)) (ishr .u64 x.lo ((63 : Nat) : Int)), ishl .u64 x.lo ((1 : Nat) : Int)⟩ := rfl
  rw [e1]
  rw [ishl_nat _ (by omega), ishl_nat _ (by omega), ishr_nat l1 (by omega)]
  have p1 : ((2 ^ 1 : Nat) : Int) = 2 := rfl
  have p63 : ((2 ^ 63 : Nat) : Int) = 9223372036854775808 := rfl
  rw [p63]
  have e2 : u64 (x.hi * ((2 ^ 1 : Nat) : Int)) = x.hi * ((2 ^ 1 : Nat) : Int) := by rw [p1]; exact u64_fix (by omega) (by omega)
  rw [e2, ior_add h1 (by omega) (by rw [p1]; omega) (by rw [p1]; omega), p1]
  have e3 : u64 (x.lo * 2) = x.lo * 2 % 18446744073709551616 := u64_def _
  simp only [val, e3]
  exact ⟨⟨by simp only; omega, by simp only; omega, by simp only; omega, by simp only; omega⟩, by omega, by omega⟩
theorem wCmp_lt {x y : U128} (wx : Wf x) (wy : Wf y) : (wCmp x y < 0) ↔ val x < val y := by
  obtain ⟨h1, h2, l1, l2⟩ := wx
  obtain ⟨g1, g2, m1, m2⟩ := wy
  unfold wCmp val
  by_cases a : x.hi = y.hi ∧ x.lo = y.lo
  · rw [if_pos a]; omega
  · rw [if_neg a]
    by_cases b : x.hi < y.hi ∨ (x.hi = y.hi ∧ x.lo < y.lo)
    · rw [if_pos b]; omega
    · rw [if_neg b]; omega
theorem wSub_eq {x y : U128} (wx : Wf x) (wy : Wf y) (h : val y ≤ val x) : Wf (wSub x y) ∧ val (wSub x y) = val x - val y := by
  obtain ⟨h1, h2, l1, l2⟩ := wx
  obtain ⟨g1, g2, m1, m2⟩ := wy
  unfold val at h
  unfold wSub
  simp only [val, u64_def]
  by_cases a : x.lo < y.lo
  · simp only [if_pos a]
    exact ⟨⟨by simp only; omega, by simp only; omega, by simp only; omega, by simp only; omega⟩, by omega⟩
  · simp only [if_neg a]
    exact ⟨⟨by simp only; omega, by simp only; omega, by simp only; omega, by simp only; omega⟩, by omega⟩
theorem ior_bit {l b : Int} (hl : 0 ≤ l) (hl' : l < 18446744073709551616) (he : l % 2 = 0) (hb : b = 0 ∨ b = 1) : ior .u64 l b = l + b := by
  have p1 : ((2 ^ 1 : Nat) : Int) = 2 := rfl
  have := ior_add (a := l / 2) (b := b) (n := 1) (by omega) (by omega) (by rw [p1]; omega) (by rw [p1]; omega)
  rw [p1, show l / 2 * 2 = l by omega] at this
  exact this
theorem shr_bit {x : U128} (w : Wf x) {n : Nat} (hn : n < 128) : 0 ≤ (wShr x n).lo ∧ (wShr x n).lo < 18446744073709551616 ∧ (wShr x n).lo % 2 = (val x / ((2 ^ n : Nat) : Int)) % 2 := by
  obtain ⟨h1, h2, l1, l2⟩ := w
  unfold wShr val
  by_cases c1 : (n : Int) ≤ 0
  · have : n = 0 := by omega
    subst this
    rw [if_pos c1]
    simp only [show ((2 ^ 0 : Nat) : Int) = 1 from rfl]
    omega
  · rw [if_neg c1]
    by_cases c2 : 64 ≤ (n : Int)
    · rw [if_pos c2]
      obtain ⟨k, rfl⟩ : ∃ k, n = 64 + k := ⟨n - 64, by omega⟩
      have e : u64 (w64 (((64 + k : Nat) : Int) - 64)) = (k : Int) := by
        rw [w64_fix (by omega) (by omega), u64_fix (by omega) (by omega)]; omega
      simp only [e]
      rw [ishr_nat h1 (by omega)]
      have hp : 0 < 2 ^ k := Nat.two_pow_pos k
      have e2 : ((2 ^ (64 + k) : Nat) : Int) = 18446744073709551616 * ((2 ^ k : Nat) : Int) := by
        rw [Nat.pow_add]; rfl
      rw [e2, ← Int.ediv_ediv_of_nonneg (by omega)]
      have e3 : (x.hi * 18446744073709551616 + x.lo) / 18446744073709551616 = x.hi := by omega
      rw [e3]
      refine ⟨Int.ediv_nonneg h1 (by omega), ?_, rfl⟩
      have := Int.ediv_le_self ((2 ^ k : Nat) : Int) h1
      omega
    · rw [if_neg c2]
      have hn64 : n < 64 := by omega
      have e1 : u64 (n : Int) = (n : Int) := u64_fix (by omega) (by omega)
      have e2 : u64 (w64 (64 - (n : Int))) = ((64 - n : Nat) : Int) := by
        rw [w64_fix (by omega) (by omega), u64_fix (by omega) (by omega)]; omega
      simp only [e1, e2]
      rw [ishr_nat l1 (by omega), ishl_nat _ (by omega)]
      have hPQ : ((2 ^ n : Nat) : Int) * ((2 ^ (64 - n) : Nat) : Int) = 18446744073709551616 := by
        have : 2 ^ n * 2 ^ (64 - n) = 2 ^ 64 := by rw [← Nat.pow_add]; congr 1; omega
        rw [← Int.natCast_mul, this]; rfl
      have hQ : ∃ Q', ((2 ^ (64 - n) : Nat) : Int) = 2 * Q' := ⟨((2 ^ (63 - n) : Nat) : Int), by
        have : 2 ^ (64 - n) = 2 * 2 ^ (63 - n) := by rw [Nat.mul_comm, ← Nat.pow_succ]; congr 1; omega
        rw [this]; rfl⟩
      have hP0 : (0 : Int) < ((2 ^ n : Nat) : Int) := by have := Nat.two_pow_pos n; omega
      have hQ0 : (0 : Int) < ((2 ^ (64 - n) : Nat) : Int) := by have := Nat.two_pow_pos (64 - n); omega
      have hB : u64 (x.hi * ((2 ^ (64 - n) : Nat) : Int)) = (x.hi % ((2 ^ n : Nat) : Int)) * ((2 ^ (64 - n) : Nat) : Int) := by
        rw [u64_def, ← hPQ, Int.mul_comm x.hi, Int.mul_comm ((2 ^ n : Nat) : Int), Int.mul_emod_mul_of_pos _ _ hQ0, Int.mul_comm]
      have hA : 0 ≤ x.lo / ((2 ^ n : Nat) : Int) ∧ x.lo / ((2 ^ n : Nat) : Int) < ((2 ^ (64 - n) : Nat) : Int) := by
        refine ⟨Int.ediv_nonneg l1 (by omega), Int.ediv_lt_of_lt_mul hP0 ?_⟩
        rw [Int.mul_comm, hPQ]; exact l2
      have hr : 0 ≤ x.hi % ((2 ^ n : Nat) : Int) ∧ x.hi % ((2 ^ n : Nat) : Int) < ((2 ^ n : Nat) : Int) := ⟨Int.emod_nonneg _ (by omega), Int.emod_lt_of_pos _ hP0⟩
      have hsum : (x.hi % ((2 ^ n : Nat) : Int)) * ((2 ^ (64 - n) : Nat) : Int) + x.lo / ((2 ^ n : Nat) : Int) < 18446744073709551616 := by
        have h3 : (x.hi % ((2 ^ n : Nat) : Int) + 1) * ((2 ^ (64 - n) : Nat) : Int) ≤ ((2 ^ n : Nat) : Int) * ((2 ^ (64 - n) : Nat) : Int) := Int.mul_le_mul_of_nonneg_right (by omega) (by omega)
        rw [hPQ, Int.add_mul, Int.one_mul] at h3
        omega
      have hor : ior .u64 (x.lo / ((2 ^ n : Nat) : Int)) (u64 (x.hi * ((2 ^ (64 - n) : Nat) : Int))) = (x.hi % ((2 ^ n : Nat) : Int)) * ((2 ^ (64 - n) : Nat) : Int) + x.lo / ((2 ^ n : Nat) : Int) := by
        rw [hB, ← ior_add hr.1 hA.1 hA.2 hsum]
        unfold ior
        rw [BitVec.or_comm]
      rw [hor]
      have hprod : 0 ≤ (x.hi % ((2 ^ n : Nat) : Int)) * ((2 ^ (64 - n) : Nat) : Int) := Int.mul_nonneg hr.1 (by omega)
      have hdiv : (x.hi * 18446744073709551616 + x.lo) / ((2 ^ n : Nat) : Int) = x.hi * ((2 ^ (64 - n) : Nat) : Int) + x.lo / ((2 ^ n : Nat) : Int) := by
        rw [← hPQ, ← Int.mul_assoc, Int.mul_right_comm, Int.add_comm, Int.add_mul_ediv_right _ _ (by omega), Int.add_comm]
      rw [hdiv]
      obtain ⟨Q', hQ'⟩ := hQ
      rw [hQ'] at hprod hsum ⊢
      generalize x.lo / ((2 ^ n : Nat) : Int) = A at *
      have m1 : x.hi % ((2 ^ n : Nat) : Int) * (2 * Q') = 2 * (x.hi % ((2 ^ n : Nat) : Int) * Q') := by rw [← Int.mul_assoc, Int.mul_comm _ 2, Int.mul_assoc]
      have m2 : x.hi * (2 * Q') = 2 * (x.hi * Q') := by rw [← Int.mul_assoc, Int.mul_comm _ 2, Int.mul_assoc]
      rw [m1] at hprod hsum ⊢
      rw [m2]
      generalize x.hi % ((2 ^ n : Nat) : Int) * Q' = z1 at *
      generalize x.hi * Q' = z2 at *
      omega

end
end Go.Ab
