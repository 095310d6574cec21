/-
  Plain laws on whole numbers: division rounded down, counts, and the speed that lies between.
  Conditions: none.
-/
namespace Go.Ab
def down (a b : Int) : Int := if a.tmod b < 0 then a.tdiv b - 1 else a.tdiv b
theorem down_spec {a b : Int} (hb : 0 < b) : b * down a b ≤ a ∧ a < b * down a b + b := by
  have h1 := Int.mul_tdiv_add_tmod a b
  have h2 := Int.tmod_lt_of_pos a hb
  have h3 := Int.lt_tmod_of_pos a hb
  unfold down
  split
  · rw [Int.mul_sub, Int.mul_one]; omega
  · omega
theorem down_le {a b v : Int} (hb : 0 < b) (h : a ≤ b * v) : down a b ≤ v := by
  have h1 := (down_spec (a := a) hb).1
  exact Int.le_of_mul_le_mul_left (by omega : b * down a b ≤ b * v) hb
theorem le_down {a b v : Int} (hb : 0 < b) (h : b * v ≤ a) : v ≤ down a b := by
  have h1 := (down_spec (a := a) hb).2
  have h2 : b * v < b * (down a b + 1) := by rw [Int.mul_add, Int.mul_one]; omega
  have := Int.lt_of_mul_lt_mul_left h2 (Int.le_of_lt hb)
  omega
theorem up_ge {a b v : Int} (hb : 0 < b) (h : b * v ≤ a) : v ≤ - down (-a) b := by
  have : down (-a) b ≤ -v := down_le hb (by rw [Int.mul_neg]; omega)
  omega
/-- Between which numbers a way lies, by the counts. -/
theorem way_between {c t0 t1 w : Int} (hc : 0 < c) (h : t1 = t0 + w) : (down t1 c - down t0 c - 1) * c < w ∧ w < (down t1 c - down t0 c + 1) * c := by
  have h0 := down_spec (a := t0) hc
  have h1 := down_spec (a := t1) hc
  rw [Int.sub_mul, Int.add_mul, Int.sub_mul, Int.one_mul, Int.mul_comm _ c, Int.mul_comm _ c]
  omega
theorem count_near {c t0 t1 w : Int} (hc : 0 < c) (h : t1 = t0 + w) (hl : -(32000 * c) ≤ w) (hu : w ≤ 32000 * c) : -32001 < down t1 c - down t0 c ∧ down t1 c - down t0 c < 32001 := by
  obtain ⟨h1, h2⟩ := way_between hc h
  constructor
  · have : (-32000 - 1) * c < (down t1 c - down t0 c) * c := by
      rw [Int.sub_mul, Int.one_mul]; rw [Int.add_mul, Int.one_mul] at h2; omega
    have := Int.lt_of_mul_lt_mul_right this (Int.le_of_lt hc)
    omega
  · have : (down t1 c - down t0 c) * c < (32000 + 1) * c := by
      rw [Int.add_mul, Int.one_mul]; rw [Int.sub_mul, Int.one_mul] at h1; omega
    have := Int.lt_of_mul_lt_mul_right this (Int.le_of_lt hc)
    omega
/-- The least and the greatest speed that a tachometer's count leaves have the true one between them. -/
theorem tacho_lo {d lo hi c p v : Int} (hp : 0 < p) (h1 : lo ≤ c) (h2 : c ≤ hi) (h : (d - 1) * c < p * v) : (if d < 1 then down ((d - 1) * hi) p else down ((d - 1) * lo) p) ≤ v := by
  split
  · refine down_le hp ?_
    have : (d - 1) * hi ≤ (d - 1) * c := Int.mul_le_mul_of_nonpos_left (by omega) h2
    omega
  · refine down_le hp ?_
    have : (d - 1) * lo ≤ (d - 1) * c := Int.mul_le_mul_of_nonneg_left h1 (by omega)
    omega
theorem tacho_hi {d lo hi c p v : Int} (hp : 0 < p) (h1 : lo ≤ c) (h2 : c ≤ hi) (h : p * v < (d + 1) * c) : v ≤ (if d < -1 then - down (-((d + 1) * lo)) p else - down (-((d + 1) * hi)) p) := by
  split
  · refine up_ge hp ?_
    have : (d + 1) * c ≤ (d + 1) * lo := Int.mul_le_mul_of_nonpos_left (by omega) h1
    omega
  · refine up_ge hp ?_
    have : (d + 1) * c ≤ (d + 1) * hi := Int.mul_le_mul_of_nonneg_left h2 (by omega)
    omega
/-- Counts of 16 bits: the nearer way round is the true one. -/
def cnt16 (n : Int) : Int := (n.tmod 65536 + 65536).tmod 65536
def delta (a b : Int) : Int := if 32768 ≤ (b - a + 65536).tmod 65536 then (b - a + 65536).tmod 65536 - 65536 else (b - a + 65536).tmod 65536
theorem cnt16_eq (n : Int) : cnt16 n = n % 65536 := by
  have h1 := Int.mul_tdiv_add_tmod n 65536
  have h2 := Int.tmod_lt_of_pos n (b := 65536) (by omega)
  have h3 := Int.lt_tmod_of_pos n (b := 65536) (by omega)
  unfold cnt16
  rw [Int.tmod_eq_emod_of_nonneg (by omega)]
  omega
theorem delta_cnt {n m : Int} (h1 : -32001 < m - n) (h2 : m - n < 32001) : delta (cnt16 n) (cnt16 m) = m - n := by
  rw [cnt16_eq, cnt16_eq]
  unfold delta
  rw [Int.tmod_eq_emod_of_nonneg (by omega)]
  split <;> omega
end Go.Ab
