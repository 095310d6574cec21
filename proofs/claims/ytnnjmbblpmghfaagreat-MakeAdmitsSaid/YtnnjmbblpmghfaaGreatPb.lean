/-
  What functions of the program come to.
  Conditions: none.
-/
import Derived.Test.YtnnjmbblpmghfaaGreatPa
set_option linter.unusedSimpArgs false
set_option linter.unusedVariables false
namespace Go.Ab
section
variable {ext : Callee}
theorem wZero : Wf ⟨0, 0⟩ := ⟨by simp, by simp, by simp, by simp⟩
theorem wBit {x r : U128} (wx : Wf x) (wr : Wf r) (h : val r < 18446744073709551616) {n : Nat} (hn : n < 128) :
    Wf ⟨(wShl r 1).hi, ior .u64 (wShl r 1).lo (iand .u64 (wShr x n).lo 1)⟩ ∧ val ⟨(wShl r 1).hi, ior .u64 (wShl r 1).lo (iand .u64 (wShr x n).lo 1)⟩ = 2 * val r + (val x / ((2 ^ n : Nat) : Int)) % 2 := by
  obtain ⟨s1, s2, s3⟩ := shr_bit wx hn
  obtain ⟨⟨a1, a2, a3, a4⟩, b1, b2⟩ := wShl_1 wr (by omega)
  rw [iand_one s1 s2, s3]
  have hb : (val x / ((2 ^ n : Nat) : Int)) % 2 = 0 ∨ (val x / ((2 ^ n : Nat) : Int)) % 2 = 1 := by omega
  rw [ior_bit a3 a4 b2 hb]
  unfold val at b1 ⊢
  simp only
  exact ⟨⟨a1, a2, by simp only; omega, by simp only; omega⟩, by omega⟩
theorem val_nn {x : U128} (w : Wf x) : 0 ≤ val x := by
  obtain ⟨h1, h2, l1, l2⟩ := w
  unfold val; omega
theorem val_lt {x : U128} (w : Wf x) : val x < 340282366920938463463374607431768211456 := by
  obtain ⟨h1, h2, l1, l2⟩ := w
  unfold val; omega
theorem div_spec {x : U128} (wx : Wf x) {d : Int} (hd : 0 < d) (hd' : d < 18446744073709551616) : ∀ (n : Nat) (q r : U128), n ≤ 128 → Wf q → Wf r → val q * d + val r = val x / ((2 ^ n : Nat) : Int) → val r < d →
    (Wf (divGo x d n q r).1 ∧ Wf (divGo x d n q r).2) ∧ val (divGo x d n q r).1 * d + val (divGo x d n q r).2 = val x ∧ val (divGo x d n q r).2 < d
  | 0, q, r, _, wq, wr, he, hr => by
    simp only [divGo]
    refine ⟨⟨wq, wr⟩, ?_, hr⟩
    rw [he]; simp
  | n + 1, q, r, hn, wq, wr, he, hr => by
    have hx0 := val_nn wx
    have hx1 := val_lt wx
    have hq0 := val_nn wq
    have hr0 := val_nn wr
    have hp : ((2 ^ (n + 1) : Nat) : Int) = ((2 ^ n : Nat) : Int) * 2 := by rw [Nat.pow_succ]; rfl
    have hpos : (0 : Int) < ((2 ^ n : Nat) : Int) := by have := Nat.two_pow_pos n; omega
    have he2 : val x / ((2 ^ (n + 1) : Nat) : Int) = val x / ((2 ^ n : Nat) : Int) / 2 := by
      rw [hp, Int.ediv_ediv_of_nonneg (by omega)]
    have hy0 : 0 ≤ val x / ((2 ^ n : Nat) : Int) := Int.ediv_nonneg hx0 (by omega)
    have hy1 : val x / ((2 ^ n : Nat) : Int) ≤ val x := Int.ediv_le_self _ hx0
    obtain ⟨ws, es⟩ := wBit wx wr (by omega) (show n < 128 by omega)
    generalize hs : (⟨(wShl r 1).hi, ior .u64 (wShl r 1).lo (iand .u64 (wShr x n).lo 1)⟩ : U128) = s at ws es
    have hqd : val q ≤ val q * d := by
      have := Int.mul_le_mul_of_nonneg_left (show (1 : Int) ≤ d by omega) hq0
      omega
    have hq1 : val q < 170141183460469231731687303715884105728 := by omega
    obtain ⟨wq2, eq2, eb⟩ := wShl_1 wq hq1
    have wd : Wf ⟨0, d⟩ := ⟨by simp, by simp, by simp only; omega, hd'⟩
    have vd : val ⟨0, d⟩ = d := by simp [val]
    have hm : 2 * val q * d = 2 * (val q * d) := by rw [Int.mul_assoc]
    simp only [divGo]
    rw [hs]
    by_cases hc : wCmp s ⟨0, d⟩ < 0
    · rw [if_pos hc]
      have hlt := (wCmp_lt ws wd).1 hc
      rw [vd] at hlt
      refine div_spec wx hd hd' n _ _ (by omega) wq2 ws ?_ hlt
      rw [eq2, hm]; omega
    · rw [if_neg hc]
      have hge : d ≤ val s := by
        have : ¬ val s < val ⟨0, d⟩ := fun h => hc ((wCmp_lt ws wd).2 h)
        rw [vd] at this; omega
      obtain ⟨wu, eu⟩ := wSub_eq ws wd (by rw [vd]; exact hge)
      rw [vd] at eu
      obtain ⟨a1, a2, a3, a4⟩ := wq2
      have e1 : ior .u64 (wShl q 1).lo 1 = (wShl q 1).lo + 1 := ior_bit a3 a4 eb (Or.inr rfl)
      have wq3 : Wf ⟨(wShl q 1).hi, ior .u64 (wShl q 1).lo 1⟩ := ⟨a1, a2, by simp only [e1]; omega, by simp only [e1]; omega⟩
      have eq3 : val ⟨(wShl q 1).hi, ior .u64 (wShl q 1).lo 1⟩ = 2 * val q + 1 := by
        rw [← eq2, e1]; simp only [val]; omega
      refine div_spec wx hd hd' n _ _ (by omega) wq3 wu ?_ (by omega)
      rw [eq3, Int.add_mul, hm, eu]; omega
theorem ediv_of {P c k : Int} (hc : 0 < c) (h1 : c * k ≤ P) (h2 : P < c * k + c) : P / c = k := by
  have e : P = (P - c * k) + c * k := by omega
  rw [e, Int.add_mul_ediv_left _ _ (by omega), Int.ediv_eq_zero_of_lt (by omega) (by omega)]
  omega
theorem wDiv_eq {x : U128} (wx : Wf x) {d : Int} (hd : 0 < d) (hd' : d < 18446744073709551616) : Wf (wDiv x d).1 ∧ val (wDiv x d).1 = val x / d ∧ (wDiv x d).2.1 = val x % d := by
  have hx0 := val_nn wx
  have hx1 := val_lt wx
  have hz : val x / ((2 ^ 128 : Nat) : Int) = 0 := Int.ediv_eq_zero_of_lt hx0 (by
    have : ((2 ^ 128 : Nat) : Int) = 340282366920938463463374607431768211456 := rfl
    rw [this]; exact hx1)
  obtain ⟨⟨w1, w2⟩, he, hr⟩ := div_spec wx hd hd' 128 ⟨0, 0⟩ ⟨0, 0⟩ (Nat.le_refl _) wZero wZero (by rw [hz]; simp [val]) (by simpa [val] using hd)
  unfold wDiv
  rw [if_neg (by omega)]
  simp only
  generalize divGo x d 128 ⟨0, 0⟩ ⟨0, 0⟩ = p at *
  have hr0 := val_nn w2
  have hq : val x / d = val p.1 := ediv_of hd (by rw [Int.mul_comm]; omega) (by rw [Int.mul_comm]; omega)
  have hm : val x % d = val p.2 := by
    have := Int.mul_ediv_add_emod (val x) d
    rw [hq, Int.mul_comm] at this
    omega
  refine ⟨w1, hq.symm, ?_⟩
  rw [hm]
  obtain ⟨h1, h2, l1, l2⟩ := w2
  unfold val at hr hr0 ⊢
  omega

end
end Go.Ab
namespace Go.Ab
section
variable {ext : Callee}
theorem w64_def (x : Int) : w64 x = (x + 9223372036854775808) % 18446744073709551616 - 9223372036854775808 := by
  have e : w64 x = w64 ((x + 9223372036854775808) % 18446744073709551616 - 9223372036854775808) := by
    simp only [w64, IntKind.wrap]
    simp [IntKind.bits, IntKind.signed]
  rw [e]
  exact w64_id (by omega) (by omega)
theorem numSize_eq {a : Int} (h1 : -9223372036854775808 ≤ a) (h2 : a < 9223372036854775808) : numSize a = if a < 0 then -a else a := by
  unfold numSize
  simp only [u64_eq, u64_def]
  split <;> omega
theorem wAdd_one {x : U128} (w : Wf x) (h : val x < 170141183460469231731687303715884105728) : Wf (wAdd x ⟨0, 1⟩) ∧ val (wAdd x ⟨0, 1⟩) = val x + 1 := by
  obtain ⟨h1, h2, l1, l2⟩ := w
  unfold val at h
  unfold wAdd
  simp only [val, u64_def]
  by_cases a : (x.lo + 1) % 18446744073709551616 < x.lo
  · simp only [if_pos a]
    exact ⟨⟨by simp only; omega, by simp only; omega, by simp only; omega, by simp only; omega⟩, by omega⟩
  · simp only [if_neg a]
    exact ⟨⟨by simp only; omega, by simp only; omega, by simp only; omega, by simp only; omega⟩, by omega⟩
theorem rSigned_eq {x : U128} (w : Wf x) (h : val x ≤ 4611686018427387904) (b : Bool) : rSigned x b = (if b = true then - val x else val x, 0) := by
  obtain ⟨h1, h2, l1, l2⟩ := w
  unfold val at h ⊢
  have hi : x.hi = 0 := by omega
  unfold rSigned wCmp
  cases b with
  | true =>
    have e : u64 (9223372036854775807 + 1) = 9223372036854775808 := by rw [u64_def]; rfl
    simp only [if_true, e, hi]
    have q1 : ¬ (True ∧ x.lo = 9223372036854775808) := fun h => absurd h.2 (by omega)
    have q2 : (0 : Int) < 0 ∨ (True ∧ x.lo < 9223372036854775808) := Or.inr ⟨trivial, by omega⟩
    rw [if_neg q1, if_pos q2, if_neg (by omega), u64_def, w64_def]
    congr 1
    omega
  | false =>
    simp only [Bool.false_eq_true, if_false, hi]
    have q1 : ¬ (True ∧ x.lo = 9223372036854775807) := fun h => absurd h.2 (by omega)
    have q2 : (0 : Int) < 0 ∨ (True ∧ x.lo < 9223372036854775807) := Or.inr ⟨trivial, by omega⟩
    rw [if_neg q1, if_pos q2, if_neg (by omega), w64_def]
    congr 1
    omega
/-- Is a product of two numbers, divided by one above 0, below 0? -/
theorem rBelow_pos {a b c : Int} (hc : 0 < c) : rBelow a b c = (!(decide (a < 0) == decide (b < 0))) := by
  have : decide (c < 0) = false := by simp; omega
  unfold rBelow
  rw [this]
  cases decide (a < 0) <;> cases decide (b < 0) <;> rfl
/-- The sizes' product. -/
theorem size_prod (a b : Int) : (if a < 0 then -a else a) * (if b < 0 then -b else b) = if (!(decide (a < 0) == decide (b < 0))) = true then -(a * b) else a * b := by
  by_cases h1 : a < 0 <;> by_cases h2 : b < 0 <;> simp [h1, h2, Int.neg_mul, Int.mul_neg]
theorem rDivide_eq {a b c : Int} (ha : -9223372036854775808 ≤ a) (ha' : a < 9223372036854775808) (hb : -9223372036854775808 ≤ b) (hb' : b < 9223372036854775808) (hc : 0 < c) (hc' : c < 9223372036854775808)
    (h1 : -4611686018427387904 < a * b / c) (h2 : a * b / c < 4611686018427387904) (up : Bool) : rDivide a b c up = (if up = true then -(-(a * b) / c) else a * b / c, 0) := by
  have s1 := numSize_eq ha ha'
  have s2 := numSize_eq hb hb'
  have s3 : numSize c = c := by rw [numSize_eq (by omega) hc']; rw [if_neg (by omega)]
  have g1 : 0 ≤ numSize a ∧ numSize a < 18446744073709551616 := by rw [s1]; split <;> omega
  have g2 : 0 ≤ numSize b ∧ numSize b < 18446744073709551616 := by rw [s2]; split <;> omega
  obtain ⟨m1, m2, m3⟩ := wMul_eq g1.1 g1.2 g2.1 g2.2
  have wm : Wf (wMul (numSize a) (numSize b)) := ⟨m1.1, m1.2, m2.1, m2.2⟩
  obtain ⟨d1, d2, d3⟩ := wDiv_eq wm hc (by omega)
  have hv : val (wMul (numSize a) (numSize b)) = if rBelow a b c = true then -(a * b) else a * b := by
    rw [rBelow_pos hc, ← size_prod, ← s1, ← s2]; exact m3
  have hvn := val_nn wm
  unfold rDivide
  rw [if_neg (by omega), s3]
  generalize wMul (numSize a) (numSize b) = M at *
  generalize wDiv M c = Q at *
  generalize a * b = P at *
  generalize rBelow a b c = neg at *
  have k1 := Int.mul_ediv_add_emod P c
  have k2 := Int.emod_nonneg P (b := c) (by omega)
  have k3 := Int.emod_lt_of_pos P hc
  have j1 := Int.mul_ediv_add_emod (-P) c
  have j2 := Int.emod_nonneg (-P) (b := c) (by omega)
  have j3 := Int.emod_lt_of_pos (-P) hc
  -- the two quotients stand so
  have hpn : (P % c = 0 ∧ (-P) % c = 0 ∧ (-P) / c = -(P / c)) ∨ (0 < P % c ∧ 0 < (-P) % c ∧ (-P) / c = -(P / c) - 1) := by
    by_cases z : P % c = 0
    · have e : (-P) / c = -(P / c) := ediv_of hc (by rw [Int.mul_neg]; omega) (by rw [Int.mul_neg]; omega)
      refine Or.inl ⟨z, ?_, e⟩
      rw [e, Int.mul_neg] at j1; omega
    · have e : (-P) / c = -(P / c) - 1 := ediv_of hc (by rw [Int.mul_sub, Int.mul_neg]; omega) (by rw [Int.mul_sub, Int.mul_neg]; omega)
      refine Or.inr ⟨by omega, ?_, e⟩
      rw [e, Int.mul_sub, Int.mul_neg] at j1; omega
  cases neg with
  | true =>
    simp only [if_true] at hv
    rw [hv] at d2 d3 hvn
    have hw : val Q.1 ≤ 4611686018427387904 := by omega
    by_cases hr : 0 < Q.2.1
    · cases up with
      | true =>
        have e : (!(true == true)) = false := rfl
        simp only [hr, if_true, e, Bool.false_eq_true, if_false]
        rw [rSigned_eq d1 hw, if_pos rfl]
        congr 1 <;> omega
      | false =>
        have e : (!(false == true)) = true := rfl
        simp only [hr, if_true, e, Bool.false_eq_true, if_false]
        obtain ⟨a1, a2⟩ := wAdd_one d1 (by omega)
        rw [rSigned_eq a1 (by omega), if_pos rfl]
        congr 1 <;> omega
    · simp only [hr, if_false, Bool.false_eq_true]
      rw [rSigned_eq d1 hw, if_pos rfl]
      cases up <;> simp only [if_true, Bool.false_eq_true, if_false] <;> congr 1 <;> omega
  | false =>
    simp only [Bool.false_eq_true, if_false] at hv
    rw [hv] at d2 d3 hvn
    have hw : val Q.1 ≤ 4611686018427387904 := by omega
    by_cases hr : 0 < Q.2.1
    · cases up with
      | true =>
        have e : (!(true == false)) = true := rfl
        simp only [hr, if_true, e, Bool.false_eq_true, if_false]
        obtain ⟨a1, a2⟩ := wAdd_one d1 (by omega)
        rw [rSigned_eq a1 (by omega), if_neg (by decide)]
        congr 1 <;> omega
      | false =>
        have e : (!(false == false)) = false := rfl
        simp only [hr, if_true, e, Bool.false_eq_true, if_false]
        rw [rSigned_eq d1 hw, if_neg (by decide)]
        congr 1 <;> omega
    · simp only [hr, if_false, Bool.false_eq_true]
      rw [rSigned_eq d1 hw, if_neg (by decide)]
      cases up <;> simp only [if_true, Bool.false_eq_true, if_false] <;> congr 1 <;> omega

end
end Go.Ab
namespace Go.Ab
section
variable {ext : Callee}
theorem ediv_bd {a b B : Int} (hb : 0 < b) (h1 : -B ≤ a) (h2 : a ≤ B) : -B - 1 ≤ a / b ∧ a / b ≤ B := by
  have k1 := Int.mul_ediv_add_emod a b
  have k2 := Int.emod_nonneg a (b := b) (by omega)
  have k3 := Int.emod_lt_of_pos a hb
  have hB : 0 ≤ B := by omega
  constructor
  · apply Classical.byContradiction; intro h
    have : b * (a / b) ≤ b * (-B - 2) := Int.mul_le_mul_of_nonneg_left (by omega) (by omega)
    rw [Int.mul_sub, Int.mul_neg] at this
    have : B ≤ b * B := by have := Int.mul_le_mul_of_nonneg_right (show (1 : Int) ≤ b by omega) hB; omega
    omega
  · apply Classical.byContradiction; intro h
    have : b * (B + 1) ≤ b * (a / b) := Int.mul_le_mul_of_nonneg_left (by omega) (by omega)
    rw [Int.mul_add] at this
    have : B ≤ b * B := by have := Int.mul_le_mul_of_nonneg_right (show (1 : Int) ≤ b by omega) hB; omega
    omega
theorem down_ediv {a b : Int} (hb : 0 < b) : down a b = a / b := by
  obtain ⟨h1, h2⟩ := down_spec (a := a) hb
  exact (ediv_of hb h1 h2).symm
/-- Division rounded down, and up, of a product that is no more than 2^61. -/
theorem rFloor_eq {a b c : Int} (ha : -9223372036854775808 ≤ a) (ha' : a < 9223372036854775808) (hb : -9223372036854775808 ≤ b) (hb' : b < 9223372036854775808) (hc : 0 < c) (hc' : c < 9223372036854775808)
    (h1 : -2305843009213693952 ≤ a * b) (h2 : a * b ≤ 2305843009213693952) : rFloor a b c = (a * b / c, 0) := by
  have := ediv_bd (a := a * b) (B := 2305843009213693952) hc (by omega) (by omega)
  unfold rFloor
  rw [rDivide_eq ha ha' hb hb' hc hc' (by omega) (by omega), if_neg (by decide)]
theorem rCeil_eq {a b c : Int} (ha : -9223372036854775808 ≤ a) (ha' : a < 9223372036854775808) (hb : -9223372036854775808 ≤ b) (hb' : b < 9223372036854775808) (hc : 0 < c) (hc' : c < 9223372036854775808)
    (h1 : -2305843009213693952 ≤ a * b) (h2 : a * b ≤ 2305843009213693952) : rCeil a b c = (-(-(a * b) / c), 0) := by
  have := ediv_bd (a := a * b) (B := 2305843009213693952) hc (by omega) (by omega)
  unfold rCeil
  rw [rDivide_eq ha ha' hb hb' hc hc' (by omega) (by omega), if_pos rfl]
theorem outR_not (x a b : Int) : outR x a b = !(inR x a b) := by
  unfold outR inR
  by_cases h1 : x < a <;> by_cases h2 : b < x <;> simp [h1, h2] <;> omega
theorem out2_not (x a b y c d : Int) : out2 x a b y c d = !(inR x a b && inR y c d) := by
  unfold out2 inR
  by_cases h1 : x < a <;> by_cases h2 : b < x <;> by_cases h3 : y < c <;> by_cases h4 : d < y <;> simp [h1, h2, h3, h4] <;> omega
theorem upSpeed_same {hi p : Int} (h1 : 0 ≤ hi) (h2 : hi ≤ 8388608) (h3 : 1 ≤ p) (h4 : p ≤ 1024) : (rCeil hi 1 p).1 = refUp hi p ∧ 0 ≤ refUp hi p ∧ refUp hi p ≤ 8388608 := by
  rw [rCeil_eq (by omega) (by omega) (by omega) (by omega) (by omega) (by omega) (by omega) (by omega), Int.mul_one]
  unfold refUp
  rw [w64_fix (x := hi + p) (by omega) (by omega), w64_fix (x := hi + p - 1) (by omega) (by omega), Int.tdiv_eq_ediv_of_nonneg (by omega)]
  have k1 := Int.mul_ediv_add_emod (hi + p - 1) p
  have k2 := Int.emod_nonneg (hi + p - 1) (b := p) (by omega)
  have k3 := Int.emod_lt_of_pos (hi + p - 1) (show 0 < p by omega)
  have e : (-hi) / p = -((hi + p - 1) / p) := ediv_of (by omega) (by rw [Int.mul_neg]; omega) (by rw [Int.mul_neg]; omega)
  have k4 := ediv_bd (a := -hi) (b := p) (B := 8388608) (by omega) (by omega) (by omega)
  have k5 : 0 ≤ (hi + p - 1) / p := Int.ediv_nonneg (by omega) (by omega)
  have k6 : (hi + p - 1) / p ≤ 8388608 := by
    apply Classical.byContradiction; intro h
    have : p * 8388609 ≤ p * ((hi + p - 1) / p) := Int.mul_le_mul_of_nonneg_left (by omega) (by omega)
    omega
  rw [w64_fix (by omega) (by omega)]
  exact ⟨by simp only; omega, k5, k6⟩
theorem wrong_same (c : Config) : refWrong c = 0 ↔ (cfgCheck c).1 = 0 := by
  unfold refWrong cfgCheck
  have e3 : w64 (w64 (c.circHi - c.circLo) * 16) = w64 (16 * w64 (c.circHi - c.circLo)) := by rw [Int.mul_comm]
  rw [e3]
  simp only [outR_not, out2_not, Bool.not_eq_true', Int.not_le]
  by_cases q1 : inR c.pulses 1 1024 = false
  · rw [if_pos q1, if_pos q1]; simp
  rw [if_neg q1, if_neg q1]
  by_cases q2 : (inR c.circLo 131072 8388608 && inR c.circHi c.circLo 8388608) = false
  · rw [if_pos q2, if_pos q2]; simp
  rw [if_neg q2, if_neg q2]
  by_cases q3 : c.circLo < w64 (16 * w64 (c.circHi - c.circLo))
  · rw [if_pos q3, if_pos q3]; simp
  rw [if_neg q3, if_neg q3]
  by_cases q4 : (inR c.radBase 0 1048576 && inR c.radPart 0 65536) = false
  · rw [if_pos q4, if_pos q4]; simp
  rw [if_neg q4, if_neg q4]
  by_cases q5 : inR c.accErr 0 1048576 = false
  · rw [if_pos q5, if_pos q5]; simp
  rw [if_neg q5, if_neg q5]
  by_cases q6 : (inR c.maxSpeed 1 16777216 && inR c.maxAccel 1 1048576) = false
  · rw [if_pos q6, if_pos q6]; simp
  rw [if_neg q6, if_neg q6]
  by_cases q7 : w64 (32000 * c.circLo) < w64 (c.maxSpeed * c.pulses)
  · rw [if_pos q7, if_pos q7]; simp
  rw [if_neg q7, if_neg q7]
  by_cases q8 : inR c.antenna 0 1048576 = false
  · rw [if_pos q8, if_pos q8]; simp
  rw [if_neg q8, if_neg q8]
  by_cases q9 : (inR c.still 1 1000 && inR c.timeout 1 1000) = false
  · rw [if_pos q9, if_pos q9]; simp
  rw [if_neg q9, if_neg q9]
  rw [Bool.not_eq_false] at q1
  rw [Bool.not_eq_false, Bool.and_eq_true] at q2
  obtain ⟨p1, p2⟩ := inR_iff q1
  obtain ⟨c1, c2⟩ := inR_iff q2.1
  obtain ⟨d1, d2⟩ := inR_iff q2.2
  obtain ⟨u1, u2, u3⟩ := upSpeed_same (hi := c.circHi) (p := c.pulses) (by omega) d2 p1 p2
  rw [u1]
  have e10 : (if c.stillSpeed < refUp c.circHi c.pulses then true else if c.stillSpeed < w64 (3 * c.radBase) then true else decide (16777216 < c.stillSpeed)) = !(inR c.stillSpeed (if w64 (3 * c.radBase) > refUp c.circHi c.pulses then w64 (3 * c.radBase) else refUp c.circHi c.pulses) 16777216) := by
    generalize w64 (3 * c.radBase) = z
    generalize refUp c.circHi c.pulses = y
    generalize c.stillSpeed = x
    unfold inR
    by_cases h1 : x < y <;> by_cases h2 : x < z <;> by_cases h3 : 16777216 < x <;> by_cases h4 : z > y <;> simp [h1, h2, h3, h4] <;> omega
  rw [e10]
  simp only [Bool.not_eq_true']
  by_cases q10 : inR c.stillSpeed (if w64 (3 * c.radBase) > refUp c.circHi c.pulses then w64 (3 * c.radBase) else refUp c.circHi c.pulses) 16777216 = false
  · rw [if_pos q10, if_pos q10]; simp
  rw [if_neg q10, if_neg q10]
  by_cases q11 : inR c.roll 0 1073741824 = false
  · rw [if_pos q11, if_pos q11]; simp
  rw [if_neg q11, if_neg q11]
  by_cases q12 : inR c.brake 1 1048576 = false
  · rw [if_pos q12, if_pos q12]; simp
  rw [if_neg q12, if_neg q12]
theorem fits_same (c : Config) (t : Track) : (refFits c t).1 = 0 ↔ (cfgFits c t).1 = 0 := by
  unfold refFits cfgFits
  have h := wrong_same c
  rw [trk_same]
  by_cases q : (cfgCheck c).1 = 0
  · have n1 : ¬ ¬ refWrong c = 0 := fun x => x (h.2 q)
    have n2 : ¬ ¬ (cfgCheck c).1 = 0 := fun x => x q
    rw [if_neg n1, if_neg n2]
  · have q' : ¬ refWrong c = 0 := fun e => q (h.1 e)
    rw [if_pos q', if_pos q]
    simp [q]

end
end Go.Ab
namespace Go.Ab
section
variable {ext : Callee}
theorem adm_parts {c : Config} {t : Track} {s : Script} (h1 : (cfgFits c t).1 = 0) (h2 : speedsOk c s = true) (h3 : wheelsOk c s = true) (h4 : numsGo c s.ticks = true) : Adm c t s := by
  obtain ⟨a1, a2, a3, a4, a5, a6, a7⟩ := cfg_parts (fits_cfg h1)
  obtain ⟨p1, p2⟩ := inR_iff a1
  obtain ⟨lo1, lo2⟩ := inR_iff a2
  obtain ⟨hi1, hi2⟩ := inR_iff a3
  obtain ⟨rb1, rb2⟩ := inR_iff a4
  obtain ⟨rp1, rp2⟩ := inR_iff a5
  obtain ⟨ms1, ms2⟩ := inR_iff a6
  have hm := mul_bd (a := c.maxSpeed) (b := c.pulses) (A := 16777216) (B := 1024) (by omega) (by omega) ms2 (by omega) p2
  rw [w64_fix (by omega) (by omega), w64_fix (by omega) (by omega)] at a7
  have hv : speedsGo c s.v0 s.ticks = true := by
    simp only [speedsOk] at h2
    split at h2
    · cases h2
    · exact h2
  simp only [wheelsOk, Bool.and_eq_true] at h3
  refine ⟨p1, p2, lo1, lo2, hi1, hi2, rb1, rb2, rp1, rp2, ms1, ms2, a7, ?_, speeds_v ms1 ms2 hv, ?_, ?_⟩
  · rintro w (rfl | rfl)
    · exact wheel_of h3.1
    · exact wheel_of h3.2
  · intro k hk w hw
    obtain ⟨b0, b1, _⟩ := nums_of (nums_k h4 k hk)
    rcases hw with rfl | rfl
    · exact within_iff (by omega) (by omega) b0
    · exact within_iff (by omega) (by omega) b1
  · intro k hk
    exact within_iff (by omega) (by omega) (nums_of (nums_k h4 k hk)).2.2
section
variable {c : Config} {t : Track} {s : Script}
theorem err_same (A : Adm c t s) {r : Int} (h1 : -2147483648 ≤ r) (h2 : r ≤ 2147483648) : cfgErr c r = refErr c r := by
  have hA := A.rp1; have hB := A.rp2
  unfold cfgErr refErr
  have hm : (if r < w64 (0 - r) then w64 (0 - r) else r) = (if r < 0 then w64 (0 - r) else r) := by
    rw [w64_fix (by omega) (by omega)]; split <;> split <;> omega
  rw [hm]
  have hm2 : 0 ≤ (if r < 0 then w64 (0 - r) else r) ∧ (if r < 0 then w64 (0 - r) else r) ≤ 2147483648 := by
    split
    · rw [w64_fix (by omega) (by omega)]; omega
    · omega
  generalize (if r < 0 then w64 (0 - r) else r) = m at *
  obtain ⟨m1, m2⟩ := hm2
  have hp := mul_bd (a := m) (b := c.radPart) (A := 2147483648) (B := 65536) (by omega) (by omega) m2 hA hB
  have hp0 : 0 ≤ m * c.radPart := Int.mul_nonneg m1 hA
  rw [rFloor_eq (by omega) (by omega) (by omega) (by omega) (by omega) (by omega) (by omega) (by omega)]
  rw [w64_fix (x := m * c.radPart) (by omega) (by omega), Int.tdiv_eq_ediv_of_nonneg hp0, w64_fix (x := m * c.radPart / 1048576) (by omega) (by omega)]
theorem fit_same (y : Tick) (q : Option Tick) (i : Nat) : fitS y q i = fitR (refTick y) (q.map refTick) i := by
  unfold fitS fitR
  rw [show (refTick y).lost i = b2i (y.lost i) from rfl]
  by_cases h : i = 2
  · subst h
    cases h1 : y.lost 2 <;> simp [b2i]
  · simp only [if_neg h]
    cases q with
    | none => cases h1 : y.lost i <;> simp [b2i]
    | some z =>
      simp only [Option.map_some, show (refTick z).lost i = b2i (z.lost i) from rfl]
      cases h1 : y.lost i <;> cases h2 : z.lost i <;> simp [b2i]
theorem wrongW_same (A : Adm c t s) {y : Tick} (hy : y ∈ s.ticks) (i : Nat) : wrongS c y i = wrongR c (refTick y) i := by
  have v := A.v y hy
  have r := A.rad y hy
  have ms := A.ms2
  unfold wrongS wrongR
  rw [show (refTick y).rad = y.rad from rfl, show (refTick y).v = y.v from rfl, show (refTick y).slip = y.slip from rfl, far_within]
  rw [w64_fix (x := y.v + y.rad) (by omega) (by omega), err_same A (by omega) (by omega)]
theorem radar_same (A : Adm c t s) {y : Tick} (hy : y ∈ s.ticks) : saysR c y = ⟨(refRadar c (w64 (y.v + y.rad))).1, (refRadar c (w64 (y.v + y.rad))).2⟩ := by
  have v := A.v y hy
  have r := A.rad y hy
  have ms := A.ms2
  unfold saysR refRadar
  rw [w64_fix (x := y.v + y.rad) (by omega) (by omega), err_same A (by omega) (by omega)]
  obtain ⟨e1, e2⟩ := refErr_bd A (r := y.v + y.rad) (by omega) (by omega)
  generalize refErr c (y.v + y.rad) = e at *
  generalize hx : y.v + y.rad = x at *
  have f1 : numSub x e = (x - e, true) := by
    unfold numSub
    rw [w64_fix (x := x - e) (by omega) (by omega)]
    by_cases h1 : 0 ≤ x <;> by_cases h2 : 0 ≤ e <;> by_cases h3 : 0 ≤ x - e <;> simp [h1, h2, h3] <;> omega
  have f2 : numAdd x e = (x + e, true) := by
    unfold numAdd
    rw [w64_fix (x := x + e) (by omega) (by omega)]
    by_cases h1 : 0 ≤ x <;> by_cases h2 : 0 ≤ e <;> by_cases h3 : 0 ≤ x + e <;> simp [h1, h2, h3] <;> omega
  unfold spanGrow spanBoth
  rw [if_neg (by simp), f1, f2]
  simp only
  rw [if_neg (by simp; omega), w64_fix (x := x - e) (by omega) (by omega), w64_fix (x := x + e) (by omega) (by omega)]
theorem ediv_mono {a b p : Int} (hp : 0 < p) (h : a ≤ b) : a / p ≤ b / p := Int.ediv_le_ediv hp h
theorem tacho_same (A : Adm c t s) {d : Int} (h1 : -32768 ≤ d) (h2 : d ≤ 32767) : (tacho d ⟨c.circLo, c.circHi⟩ c.pulses).1 = ⟨(rTacho d c.circLo c.circHi c.pulses).1, (rTacho d c.circLo c.circHi c.pulses).2⟩ := by
  have l1 := A.lo1; have l2 := A.lo2; have l3 := A.hi1; have l4 := A.hi2; have p1 := A.p1; have p2 := A.p2
  have m : ∀ x y : Int, -32769 ≤ x → x ≤ 32768 → 0 ≤ y → y ≤ 8388608 → -(32769 * 8388608) ≤ x * y ∧ x * y ≤ 32769 * 8388608 := fun x y hx hx' hy hy' => mul_bd (by omega) hx (by omega) hy hy'
  -- one side's span
  have st : ∀ x : Int, -32769 ≤ x → x ≤ 32768 → spanTimes ⟨c.circLo, c.circHi⟩ x c.pulses = (⟨x * (if x < 0 then c.circHi else c.circLo) / c.pulses, -(-(x * (if x < 0 then c.circLo else c.circHi)) / c.pulses)⟩, 0) := by
    intro x hx hx'
    have m1 := m x (if x < 0 then c.circHi else c.circLo) hx hx' (by split <;> omega) (by split <;> omega)
    have m2 := m x (if x < 0 then c.circLo else c.circHi) hx hx' (by split <;> omega) (by split <;> omega)
    have n1 : 0 ≤ (if x < 0 then c.circHi else c.circLo) ∧ (if x < 0 then c.circHi else c.circLo) ≤ 8388608 := by split <;> omega
    have n2 : 0 ≤ (if x < 0 then c.circLo else c.circHi) ∧ (if x < 0 then c.circLo else c.circHi) ≤ 8388608 := by split <;> omega
    unfold spanTimes
    simp only
    rw [if_neg (by omega), rFloor_eq (by omega) (by omega) (by omega) (by omega) (by omega) (by omega) (by omega) (by omega), rCeil_eq (by omega) (by omega) (by omega) (by omega) (by omega) (by omega) (by omega) (by omega)]
    simp
  unfold tacho
  rw [if_neg (by omega), w64_fix (x := d - 1) (by omega) (by omega), w64_fix (x := d + 1) (by omega) (by omega), st (d - 1) (by omega) (by omega), st (d + 1) (by omega) (by omega)]
  simp only [ne_eq, not_true, if_false]
  -- the four products
  have b1 := m (d - 1) c.circHi (by omega) (by omega) (by omega) (by omega)
  have b2 := m (d - 1) c.circLo (by omega) (by omega) (by omega) (by omega)
  have b3 := m (d + 1) c.circHi (by omega) (by omega) (by omega) (by omega)
  have b4 := m (d + 1) c.circLo (by omega) (by omega) (by omega) (by omega)
  unfold rTacho
  rw [w64_fix (x := d - 1) (by omega) (by omega), w64_fix (x := d + 1) (by omega) (by omega), w64_fix (x := (d - 1) * c.circHi) (by omega) (by omega), w64_fix (x := (d - 1) * c.circLo) (by omega) (by omega), w64_fix (x := (d + 1) * c.circHi) (by omega) (by omega), w64_fix (x := (d + 1) * c.circLo) (by omega) (by omega)]
  rw [rDown_eq (by omega) (by omega) (by omega), rDown_eq (by omega) (by omega) (by omega), rUp_eq (by omega) (by omega) (by omega), rUp_eq (by omega) (by omega) (by omega)]
  simp only [down_ediv (show 0 < c.pulses by omega)]
  have c1 : (if d < 1 then (d - 1) * c.circHi / c.pulses else (d - 1) * c.circLo / c.pulses) = (d - 1) * (if d - 1 < 0 then c.circHi else c.circLo) / c.pulses := by
    by_cases h : d < 1
    · rw [if_pos h, if_pos (by omega)]
    · rw [if_neg h, if_neg (by omega)]
  have c2 : (if d < -1 then -(-((d + 1) * c.circLo) / c.pulses) else -(-((d + 1) * c.circHi) / c.pulses)) = -(-((d + 1) * (if d + 1 < 0 then c.circLo else c.circHi)) / c.pulses) := by
    by_cases h : d < -1
    · rw [if_pos h, if_pos (by omega)]
    · rw [if_neg h, if_neg (by omega)]
  rw [c1, c2]
  -- how the products lie
  have o1 : (d - 1) * (if d - 1 < 0 then c.circHi else c.circLo) ≤ (d - 1) * (if d - 1 < 0 then c.circLo else c.circHi) := by
    by_cases h : d - 1 < 0
    · rw [if_pos h, if_pos h]; exact Int.mul_le_mul_of_nonpos_left (by omega) l3
    · rw [if_neg h, if_neg h]; exact Int.mul_le_mul_of_nonneg_left l3 (by omega)
  have o2 : (d + 1) * (if d + 1 < 0 then c.circHi else c.circLo) ≤ (d + 1) * (if d + 1 < 0 then c.circLo else c.circHi) := by
    by_cases h : d + 1 < 0
    · rw [if_pos h, if_pos h]; exact Int.mul_le_mul_of_nonpos_left (by omega) l3
    · rw [if_neg h, if_neg h]; exact Int.mul_le_mul_of_nonneg_left l3 (by omega)
  have e1 : (d + 1) * c.circHi = (d - 1) * c.circHi + 2 * c.circHi := by rw [show d + 1 = (d - 1) + 2 by omega, Int.add_mul]
  have e2 : (d + 1) * c.circLo = (d - 1) * c.circLo + 2 * c.circLo := by rw [show d + 1 = (d - 1) + 2 by omega, Int.add_mul]
  have o3 : (d - 1) * (if d - 1 < 0 then c.circHi else c.circLo) ≤ (d + 1) * (if d + 1 < 0 then c.circHi else c.circLo) := by
    by_cases h : d + 1 < 0
    · rw [if_pos h, if_pos (by omega)]; omega
    · rw [if_neg h]
      by_cases g : d - 1 < 0
      · rw [if_pos g]
        have g1 : (d - 1) * c.circHi ≤ 0 := Int.mul_nonpos_of_nonpos_of_nonneg (by omega) (by omega)
        have g2 : 0 ≤ (d + 1) * c.circLo := Int.mul_nonneg (by omega) (by omega)
        omega
      · rw [if_neg g]; omega
  have o4 : (d - 1) * (if d - 1 < 0 then c.circLo else c.circHi) ≤ (d + 1) * (if d + 1 < 0 then c.circLo else c.circHi) := by
    by_cases h : d + 1 < 0
    · rw [if_pos h, if_pos (by omega)]; omega
    · rw [if_neg h]
      by_cases g : d - 1 < 0
      · rw [if_pos g]
        have g1 : (d - 1) * c.circLo ≤ 0 := Int.mul_nonpos_of_nonpos_of_nonneg (by omega) (by omega)
        have g2 : 0 ≤ (d + 1) * c.circHi := Int.mul_nonneg (by omega) (by omega)
        omega
      · rw [if_neg g]; omega
  generalize (d - 1) * (if d - 1 < 0 then c.circHi else c.circLo) = x1 at *
  generalize (d - 1) * (if d - 1 < 0 then c.circLo else c.circHi) = x2 at *
  generalize (d + 1) * (if d + 1 < 0 then c.circHi else c.circLo) = y1 at *
  generalize (d + 1) * (if d + 1 < 0 then c.circLo else c.circHi) = y2 at *
  have hp0 : 0 < c.pulses := by omega
  have fc : ∀ u v : Int, u ≤ v → u / c.pulses ≤ -(-v / c.pulses) := by
    intro u v huv
    have k1 := Int.mul_ediv_add_emod u c.pulses
    have k2 := Int.emod_nonneg u (b := c.pulses) (by omega)
    have k3 := Int.mul_ediv_add_emod (-v) c.pulses
    have k4 := Int.emod_nonneg (-v) (b := c.pulses) (by omega)
    apply Classical.byContradiction; intro h
    have : c.pulses * (-(-v / c.pulses) + 1) ≤ c.pulses * (u / c.pulses) := Int.mul_le_mul_of_nonneg_left (by omega) (by omega)
    rw [Int.mul_add, Int.mul_neg] at this
    omega
  have r1 := fc x1 x2 o1
  have r2 := fc y1 y2 o2
  have r3 := ediv_mono hp0 o3
  have r4 := ediv_mono hp0 (show -y2 ≤ -x2 by omega)
  unfold spanHull
  simp only
  rw [if_neg (by omega), if_neg (by omega), if_neg (by omega)]
  congr 1
  split <;> omega
end

end
end Go.Ab
namespace Go.Ab
section
variable {ext : Callee}
theorem u16_def (x : Int) : IntKind.u16.wrap x = x % 65536 := by
  simp only [IntKind.wrap]; simp [IntKind.bits, IntKind.signed]
theorem i16_def (x : Int) : IntKind.i16.wrap x = (x + 32768) % 65536 - 32768 := by
  simp only [IntKind.wrap]
  simp [IntKind.bits, IntKind.signed]
  omega
theorem delta_same (a b : Int) : pulseDelta a b = rDelta (n16 a) (n16 b) ∧ -32768 ≤ pulseDelta a b ∧ pulseDelta a b ≤ 32767 := by
  rw [n16_eq, n16_eq, rDelta_eq, cnt16_eq, cnt16_eq]
  unfold pulseDelta delta
  rw [Int.tmod_eq_emod_of_nonneg (by omega)]
  simp only [u16_def, i16_def]
  rw [w64_fix (by omega) (by omega)]
  refine ⟨?_, by omega, by omega⟩
  split <;> omega
theorem turn_step (p v sl a : Int) : w64 (a + w64 (w64 (p * v) + sl)) = w64 (w64 (a + w64 (p * v)) + sl) := by
  generalize p * v = m
  simp only [w64_def]
  omega
theorem counts_at (p x : Int) (w : Nat) : ∀ (r : List Tick) (a : Int) (k : Nat), k < r.length → (countsGo p x w a r).getD k 0 = (rFloor (turnGo p w a ((r.map refTick).take (k + 1))) 1 x).1
  | [], a, k, h => by simp at h
  | y :: r, a, 0, h => by
    simp only [countsGo, List.getD_cons_zero, List.map_cons, List.take_succ_cons, List.take_zero, turnGo, turn_step]
    rfl
  | y :: r, a, k + 1, h => by
    simp only [countsGo, List.getD_cons_succ, List.map_cons, List.take_succ_cons, turnGo, turn_step]
    exact counts_at p x w r _ k (by simpa using h)
section
variable {c : Config} {t : Track} {s : Script}
theorem count_same (A : Adm c t s) (hn : s.ticks.length ≤ 120) {k w : Nat} (hw : w = 0 ∨ w = 1) (hk : k < s.ticks.length) : (counts c s w).getD k 0 = rCount (refS s) c.pulses w (k + 1) := by
  obtain ⟨c1, c2, c3, c4⟩ := A.circ w hw
  have hms := A.ms2
  have hlo := A.lo1; have hhi := A.hi2
  have hp1 := A.p1; have hp2 := A.p2
  unfold counts rCount
  rw [counts_at _ _ _ _ _ _ hk]
  rw [show (refS s).phase = s.phase from rfl, show (refS s).circ = s.circ from rfl, show (refS s).ticks = s.ticks.map refTick from rfl]
  have hlen : ((s.ticks.map refTick).take (k + 1)).length ≤ 120 := by simp; omega
  have hb := turn_bd c.pulses w (by omega) hp2 ((s.ticks.map refTick).take (k + 1)) (s.phase w) 8388608 (by
    intro x hx
    obtain ⟨z, hz, rfl⟩ := List.mem_map.1 (List.mem_of_mem_take hx)
    have q1 := A.v z hz
    have q2 := A.slip z hz w hw
    exact ⟨⟨by show -16777216 ≤ z.v; omega, by show z.v ≤ 16777216; omega⟩, q2⟩) (by omega) (by omega) (by omega) (by omega)
  generalize turnGo c.pulses w (s.phase w) ((s.ticks.map refTick).take (k + 1)) = T at *
  rw [rFloor_eq (by omega) (by omega) (by omega) (by omega) (by omega) (by omega) (by omega) (by omega), rDown_eq (by omega) (by omega) (by omega), down_ediv (by omega), Int.mul_one]
theorem says_same (A : Adm c t s) (hn : s.ticks.length ≤ 120) {k w : Nat} (hw : w = 0 ∨ w = 1) (hk : k < s.ticks.length) (h0 : 0 < k) :
    saysT c ((counts c s w).getD (k - 1) 0) ((counts c s w).getD k 0) = ⟨(rSaysT c (refS s) w k).1, (rSaysT c (refS s) w k).2⟩ := by
  rw [count_same A hn hw hk, count_same A hn hw (show k - 1 < s.ticks.length by omega), show k - 1 + 1 = k by omega]
  unfold saysT rSaysT
  obtain ⟨d1, d2, d3⟩ := delta_same (rCount (refS s) c.pulses w k) (rCount (refS s) c.pulses w (k + 1))
  rw [tacho_same A d2 d3, d1]
theorem prev_map {α β : Type} (f : α → β) (l : List α) (k : Nat) : prevOf (l.map f) k = (prevOf l k).map f := by
  cases k <;> simp [prevOf]
theorem sens_same (A : Adm c t s) (hn : s.ticks.length ≤ 120) {k : Nat} (hk : k < s.ticks.length) : sensOk c s (counts c s 0) (counts c s 1) k = refSens c (refS s) k := by
  obtain ⟨y, hy⟩ := get_ex hk
  have hm := List.mem_of_getElem? hy
  unfold sensOk refSens
  rw [hy, refS_get hy]
  simp only
  unfold refCnt sensF
  rw [show (refS s).ticks = s.ticks.map refTick from rfl, prev_map, ← fit_same, ← fit_same, ← fit_same, ← wrongW_same A hm, ← wrongW_same A hm, ← wrongW_same A hm]
  by_cases f : fitS y (prevOf s.ticks k) 0 = true ∧ fitS y (prevOf s.ticks k) 1 = true ∧ fitS y (prevOf s.ticks k) 2 = true
  · obtain ⟨f0, f1, f2⟩ := f
    have h0 : 0 < k := by
      cases k with
      | zero => simp [fitS, prevOf] at f0
      | succ k => omega
    rw [says_same A hn (Or.inl rfl) hk h0, says_same A hn (Or.inr rfl) hk h0, radar_same A hm, f0, f1, f2]
    unfold refSays3
    rw [show (refTick y).v = y.v from rfl, show (refTick y).rad = y.rad from rfl]
    rw [← common_by]
    cases wrongS c y 0 <;> cases wrongS c y 1 <;> cases wrongS c y 2 <;> simp [senStep, cntStep, sensEnd, w64_1, w64_2, w64_3]
  · generalize saysT c ((counts c s 0).getD (k - 1) 0) ((counts c s 0).getD k 0) = s0
    generalize saysT c ((counts c s 1).getD (k - 1) 0) ((counts c s 1).getD k 0) = s1
    generalize saysR c y = s2
    generalize (by_ (refSays3 c (refS s) k (refTick y)) 3).2 = bb
    revert f
    cases fitS y (prevOf s.ticks k) 0 <;> cases fitS y (prevOf s.ticks k) 1 <;> cases fitS y (prevOf s.ticks k) 2 <;> cases wrongS c y 0 <;> cases wrongS c y 1 <;> cases wrongS c y 2 <;> simp [senStep, cntStep, sensEnd, w64_1, w64_2, w64_3]
theorem all_same (A : Adm c t s) (hn : s.ticks.length ≤ 120) : ∀ (r : List Tick) (i : Nat), s.ticks.drop i = r → allGo c s (counts c s 0) (counts c s 1) i r = refSensAll c (refS s) i (r.map refTick)
  | [], i, _ => rfl
  | y :: r, i, hs => by
    obtain ⟨h1, h2, h3⟩ := dr_cons hs
    simp only [List.map_cons, allGo, refSensAll]
    rw [sens_same A hn (List.getElem?_eq_some_iff.1 h1).1, all_same A hn r (i + 1) h3]
end

end
end Go.Ab
