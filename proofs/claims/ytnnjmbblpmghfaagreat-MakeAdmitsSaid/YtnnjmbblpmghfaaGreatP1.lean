/-
  Plain laws on whole numbers: division rounded down, counts, and the speed that lies between.
  Conditions: none.
-/
namespace Go.Ab
def down (a b : Int) : Int := if a.tmod b < 0 then a.tdiv b - 1 else a.tdiv b
theorem down_spec {a b : Int} (hb : 0 < b) : b * down a b ≤ a ∧ a < b * down a b + b := by
  have h1 := Int.mul_tdiv_add_tmod a b
  have h2 := Int.tmod_lt_of_pos a hb
  have h3 := Int.lt_tmod_of_pos a hb
  unfold down
  split
  · rw [Int.mul_sub, Int.mul_one]; omega
  · omega
/-- Counts of 16 bits: the nearer way round is the true one. -/
def cnt16 (n : Int) : Int := (n.tmod 65536 + 65536).tmod 65536
def delta (a b : Int) : Int := if 32768 ≤ (b - a + 65536).tmod 65536 then (b - a + 65536).tmod 65536 - 65536 else (b - a + 65536).tmod 65536
theorem cnt16_eq (n : Int) : cnt16 n = n % 65536 := by
  have h1 := Int.mul_tdiv_add_tmod n 65536
  have h2 := Int.tmod_lt_of_pos n (b := 65536) (by omega)
  have h3 := Int.lt_tmod_of_pos n (b := 65536) (by omega)
  unfold cnt16
  rw [Int.tmod_eq_emod_of_nonneg (by omega)]
  omega
end Go.Ab
