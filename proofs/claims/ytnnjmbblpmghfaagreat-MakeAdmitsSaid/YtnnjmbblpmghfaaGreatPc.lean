/-
  What functions of the program come to.
  Conditions: none.
-/
import Derived.Test.YtnnjmbblpmghfaaGreatPb
set_option linter.unusedSimpArgs false
set_option linter.unusedVariables false
namespace Go.Ab
section
variable {ext : Callee}
/-! The two sums of the frames are the same. -/
def L (x : Nat) : Nat := (x <<< 1) ^^^ (if x.testBit 15 then 69665 else 0)
def Lit : Nat → Nat → Nat
  | 0, x => x
  | n + 1, x => Lit n (L x)
theorem L_xor (a b : Nat) : L (a ^^^ b) = L a ^^^ L b := by
  unfold L
  rw [Nat.shiftLeft_xor_distrib, Nat.testBit_xor]
  generalize a <<< 1 = u
  generalize b <<< 1 = v
  cases a.testBit 15 <;> cases b.testBit 15 <;> simp only [Bool.xor_false, Bool.xor_true, Bool.not_false, Bool.not_true, Bool.false_eq_true, if_true, if_false, Nat.xor_zero]
  · rw [Nat.xor_assoc]
  · rw [Nat.xor_assoc, Nat.xor_assoc, Nat.xor_comm v]
  · rw [Nat.xor_assoc u, Nat.xor_comm v, ← Nat.xor_assoc 69665, Nat.xor_self, Nat.zero_xor]
theorem Lit_xor : ∀ (n a b : Nat), Lit n (a ^^^ b) = Lit n a ^^^ Lit n b
  | 0, a, b => rfl
  | n + 1, a, b => by simp only [Lit, L_xor, Lit_xor n]
theorem Lit_add : ∀ (n m x : Nat), Lit (n + m) x = Lit m (Lit n x)
  | 0, m, x => by simp [Lit]
  | n + 1, m, x => by rw [show n + 1 + m = (n + m) + 1 by omega]; simp only [Lit]; exact Lit_add n m _
theorem Lit_succ (n x : Nat) : Lit (n + 1) x = L (Lit n x) := by rw [Lit_add]; rfl
theorem tb15 {x : Nat} (h : x < 65536) : x.testBit 15 = decide (32768 ≤ x) := by
  rw [Nat.testBit_eq_decide_div_mod_eq]
  by_cases g : 32768 ≤ x
  · simp [g]; omega
  · simp [g]; omega
theorem xor_mod16 (a b : Nat) : (a ^^^ b) % 65536 = (a % 65536) ^^^ (b % 65536) := Nat.xor_mod_two_pow (n := 16)
theorem xor_div16 (a b : Nat) : (a ^^^ b) / 65536 = (a / 65536) ^^^ (b / 65536) := Nat.xor_div_two_pow (n := 16)
theorem xor_lt16 {a b : Nat} (ha : a < 65536) (hb : b < 65536) : a ^^^ b < 65536 := Nat.xor_lt_two_pow (n := 16) ha hb
/-- How one step of L comes out. -/
theorem L_val {x : Nat} (h : x < 65536) : L x = if 32768 ≤ x then (2 * x - 65536) ^^^ 4129 else 2 * x := by
  unfold L
  rw [tb15 h, Nat.shiftLeft_eq]
  by_cases g : 32768 ≤ x
  · simp only [g, decide_true, if_true]
    have e1 : (x * 2 ^ 1 ^^^ 69665) % 65536 = (2 * x - 65536) ^^^ 4129 := by
      rw [xor_mod16, show x * 2 ^ 1 % 65536 = 2 * x - 65536 by omega]
    have e2 : (x * 2 ^ 1 ^^^ 69665) / 65536 = 0 := by
      rw [xor_div16, show x * 2 ^ 1 / 65536 = 1 by omega]; rfl
    omega
  · simp [g]; omega
theorem L_lt {x : Nat} (h : x < 65536) : L x < 65536 := by
  rw [L_val h]
  split
  · exact xor_lt16 (by omega) (by omega)
  · omega
theorem Lit_lt : ∀ (n : Nat) {x : Nat}, x < 65536 → Lit n x < 65536
  | 0, x, h => h
  | n + 1, x, h => Lit_lt n (L_lt h)
theorem L_inj0 {x : Nat} (h : x < 65536) (h0 : L x = 0) : x = 0 := by
  rw [L_val h] at h0
  split at h0
  · have : 2 * x - 65536 = 4129 := by
      have := congrArg (· ^^^ 4129) h0
      simp only [Nat.xor_assoc, Nat.xor_self, Nat.xor_zero, Nat.zero_xor] at this
      exact this
    omega
  · omega
theorem Lit_inj0 : ∀ (n : Nat) {x : Nat}, x < 65536 → Lit n x = 0 → x = 0
  | 0, x, _, h0 => h0
  | n + 1, x, h, h0 => L_inj0 h (Lit_inj0 n (L_lt h) h0)
/-- A byte that is moved up. -/
theorem Lit_up : ∀ (n : Nat) {x m : Nat}, x < 2 ^ m → m + n ≤ 16 → Lit n x = x * 2 ^ n
  | 0, x, m, _, _ => by simp [Lit]
  | n + 1, x, m, h, hm => by
    have hx : x < 32768 := by
      have : 2 ^ m ≤ 2 ^ 15 := Nat.pow_le_pow_right (by omega) (by omega)
      omega
    simp only [Lit]
    rw [L_val (by omega), if_neg (by omega), Lit_up n (m := m + 1) (by rw [Nat.pow_succ]; omega) (by omega), Nat.pow_succ, Nat.mul_comm 2 x, Nat.mul_assoc, Nat.mul_comm 2]
theorem Lit8_up {x : Nat} (h : x < 256) : Lit 8 x = x * 256 := Lit_up 8 (m := 8) h (by omega)
/-! The code's sum. -/
theorem bv16 (n : Nat) : (BitVec.ofInt 16 (n : Int)).toNat = n % 65536 := by
  rw [BitVec.toNat_ofInt]; omega
theorem ixor16 {a b : Nat} (ha : a < 65536) (hb : b < 65536) : ixor .u16 (a : Int) (b : Int) = ((a ^^^ b : Nat) : Int) := by
  have e : ixor .u16 (a : Int) (b : Int) = IntKind.u16.wrap ((BitVec.ofInt 16 (a : Int) ^^^ BitVec.ofInt 16 (b : Int)).toNat : Nat) := rfl
  have := xor_lt16 ha hb
  rw [e, BitVec.toNat_xor, bv16, bv16, Nat.mod_eq_of_lt ha, Nat.mod_eq_of_lt hb, u16_def]
  omega
theorem ishl16_1 (n : Nat) : ishl .u16 (n : Int) 1 = ((2 * n % 65536 : Nat) : Int) := by
  unfold ishl
  rw [show (2 : Int) ^ min (1 : Int).toNat IntKind.u16.bits = 2 from by decide, u16_def]
  omega
theorem ishl16_8 (n : Int) : ishl .u16 n 8 = n * 256 % 65536 := by
  unfold ishl
  rw [show (2 : Int) ^ min (8 : Int).toNat IntKind.u16.bits = 256 from by decide, u16_def]
theorem iand16_top {n : Nat} (h : n < 65536) : (iand .u16 (n : Int) 32768 = 0) ↔ n < 32768 := by
  have e : iand .u16 (n : Int) 32768 = IntKind.u16.wrap ((BitVec.ofInt 16 (n : Int) &&& BitVec.ofInt 16 ((32768 : Nat) : Int)).toNat : Nat) := rfl
  rw [e, BitVec.toNat_and, bv16, bv16, Nat.mod_eq_of_lt h, u16_def, show (32768 : Nat) % 65536 = 32768 from rfl]
  have m1 := Nat.and_mod_two_pow (a := n) (b := 32768) (n := 15)
  have m2 := Nat.and_div_two_pow (a := n) (b := 32768) (n := 15)
  rw [show (2 : Nat) ^ 15 = 32768 from rfl, show (32768 : Nat) % 32768 = 0 from rfl, Nat.and_zero] at m1
  rw [show (2 : Nat) ^ 15 = 32768 from rfl, show (32768 : Nat) / 32768 = 2 ^ 1 - 1 from rfl, Nat.and_two_pow_sub_one_eq_mod] at m2
  omega
theorem crcL {n : Nat} (h : n < 65536) : crcStep (n : Int) = ((L n : Nat) : Int) := by
  unfold crcStep
  rw [L_val h, ishl16_1]
  by_cases g : n < 32768
  · rw [if_pos ((iand16_top h).2 g), if_neg (by omega)]
    omega
  · rw [if_neg (fun e => g ((iand16_top h).1 e)), if_pos (by omega), show (2 * n % 65536 : Nat) = 2 * n - 65536 by omega]
    exact ixor16 (a := 2 * n - 65536) (b := 4129) (by omega) (by omega)
theorem crcIt_L : ∀ (m : Nat) {n : Nat}, n < 65536 → crcIt m (n : Int) = ((Lit m n : Nat) : Int)
  | 0, n, _ => rfl
  | m + 1, n, h => by simp only [crcIt, Lit]; rw [crcL h]; exact crcIt_L m (L_lt h)
theorem crcMore_L {n b : Nat} (h : n < 65536) (hb : b < 256) : crcMore (n : Int) (b : Int) = ((Lit 8 (n ^^^ b * 256) : Nat) : Int) := by
  unfold crcMore
  rw [u16_def, show ((b : Int) % 65536) = ((b : Nat) : Int) by omega, ishl16_8, show ((b : Int) * 256 % 65536) = ((b * 256 : Nat) : Int) by omega, ixor16 h (by omega)]
  exact crcIt_L 8 (xor_lt16 h (by omega))
/-- The direct sum over bytes. -/
def dGo : Nat → List Nat → Nat
  | x, [] => x
  | x, b :: r => dGo (Lit 8 (x ^^^ b * 256)) r
theorem crcGo_d : ∀ (r : List Nat) {n : Nat}, n < 65536 → (∀ b ∈ r, b < 256) → crcGo (n : Int) (r.map Int.ofNat) = ((dGo n r : Nat) : Int)
  | [], n, _, _ => rfl
  | b :: r, n, h, hr => by
    have hb := hr b (by simp)
    simp only [List.map_cons, crcGo, dGo]
    rw [show Int.ofNat b = (b : Int) from rfl, crcMore_L h hb]
    exact crcGo_d r (Lit_lt 8 (xor_lt16 h (by omega))) (fun x hx => hr x (by simp [hx]))
theorem dGo_lt : ∀ (r : List Nat) {n : Nat}, n < 65536 → (∀ b ∈ r, b < 256) → dGo n r < 65536
  | [], n, h, _ => h
  | b :: r, n, h, hr => by
    have hb := hr b (by simp)
    exact dGo_lt r (Lit_lt 8 (xor_lt16 h (by omega))) (fun x hx => hr x (by simp [hx]))
theorem dGo_app : ∀ (l r : List Nat) (n : Nat), dGo n (l ++ r) = dGo (dGo n l) r
  | [], r, n => rfl
  | b :: l, r, n => by simp only [List.cons_append, dGo]; exact dGo_app l r _
/-- The sum over bytes with two more behind is 0 just if these are the sum. -/
theorem dGo_end {l : List Nat} {n hi lo : Nat} (hn : n < 65536) (hl : ∀ b ∈ l, b < 256) (h1 : hi < 256) (h2 : lo < 256) : dGo n (l ++ [hi, lo]) = 0 ↔ dGo n l = hi * 256 + lo := by
  have hd := dGo_lt l hn hl
  rw [dGo_app]
  generalize dGo n l = d at *
  simp only [dGo]
  have e : Lit 8 (Lit 8 (d ^^^ hi * 256) ^^^ lo * 256) = Lit 16 (d ^^^ (hi * 256 ^^^ lo)) := by
    rw [← Lit8_up h2, ← Lit_xor, ← Lit_add, Nat.xor_assoc]
  have e2 : hi * 256 ^^^ lo = hi * 256 + lo := by
    have m1 : (hi * 256 ^^^ lo) % 256 = lo := by
      have := Nat.xor_mod_two_pow (a := hi * 256) (b := lo) (n := 8)
      rw [show (2 : Nat) ^ 8 = 256 from rfl] at this
      rw [this, show hi * 256 % 256 = 0 by omega, Nat.zero_xor]; omega
    have m2 : (hi * 256 ^^^ lo) / 256 = hi := by
      have := Nat.xor_div_two_pow (a := hi * 256) (b := lo) (n := 8)
      rw [show (2 : Nat) ^ 8 = 256 from rfl] at this
      rw [this, show hi * 256 / 256 = hi by omega, show lo / 256 = 0 by omega, Nat.xor_zero]
    omega
  rw [e, e2]
  constructor
  · intro h
    have := Lit_inj0 16 (xor_lt16 hd (by omega)) h
    have h3 := congrArg (· ^^^ (hi * 256 + lo)) this
    simp only [Nat.xor_assoc, Nat.xor_self, Nat.xor_zero, Nat.zero_xor] at h3
    exact h3
  · intro h
    rw [h, Nat.xor_self]
    decide

end
end Go.Ab
namespace Go.Ab
section
variable {ext : Callee}
theorem bit_two (n : Nat) : n % 2 = 0 ∨ n % 2 = 1 := by omega
theorem xor_bit (a b : Nat) : (a ^^^ b) % 2 = if a % 2 = b % 2 then 0 else 1 := by
  have := Nat.xor_mod_two_pow (a := a) (b := b) (n := 1)
  rw [show (2 : Nat) ^ 1 = 2 from rfl] at this
  rw [this]
  rcases bit_two a with h | h <;> rcases bit_two b with g | g <;> rw [h, g] <;> rfl
theorem even_xor {m y : Nat} (h : m % 2 = 0) (hy : y < 2) : m ^^^ y = m + y := by
  have m1 := xor_bit m y
  have m2 := Nat.xor_div_two_pow (a := m) (b := y) (n := 1)
  rw [show (2 : Nat) ^ 1 = 2 from rfl, show y / 2 = 0 by omega, Nat.xor_zero] at m2
  split at m1 <;> omega
theorem td_p2 (a i : Nat) : ((a : Int).tdiv (p2 i)) = ((a / 2 ^ i : Nat) : Int) := by
  unfold p2
  rw [Int.tdiv_eq_ediv_of_nonneg (by omega)]
  rfl
theorem xorBit_eq {a b : Nat} (ha : a < 65536) (hb : b < 65536) (i : Nat) : xorBit a b i = decide ((a / 2 ^ i) % 2 = (b / 2 ^ i) % 2) := by
  unfold xorBit
  have h1 := Nat.div_le_self a (2 ^ i)
  have h2 := Nat.div_le_self b (2 ^ i)
  rw [td_p2, td_p2]
  generalize a / 2 ^ i = A at *
  generalize b / 2 ^ i = B at *
  rw [w64_fix (x := (A : Int)) (by omega) (by omega), w64_fix (x := (B : Int)) (by omega) (by omega), Int.tmod_eq_emod_of_nonneg (by omega), Int.tmod_eq_emod_of_nonneg (by omega)]
  congr 1
  apply propext
  omega
theorem xorGo_eq {a b : Nat} (ha : a < 65536) (hb : b < 65536) : ∀ (n i : Nat), i + n = 16 → xorGo a b n i (((a ^^^ b) % 2 ^ i : Nat) : Int) = ((a ^^^ b : Nat) : Int)
  | 0, i, h => by
    have : i = 16 := by omega
    subst this
    have := xor_lt16 ha hb
    simp only [xorGo]
    rw [Nat.mod_eq_of_lt (by omega)]
  | n + 1, i, h => by
    have hlt : (a ^^^ b) % 2 ^ i < 65536 := by
      have := xor_lt16 ha hb
      have := Nat.mod_le (a ^^^ b) (2 ^ i)
      omega
    have hp : 2 ^ i ≤ 2 ^ 16 := Nat.pow_le_pow_right (by omega) (by omega)
    have e : (a ^^^ b) % 2 ^ (i + 1) = (a ^^^ b) % 2 ^ i + 2 ^ i * ((a ^^^ b) / 2 ^ i % 2) := Nat.mod_pow_succ
    have ed : (a ^^^ b) / 2 ^ i = (a / 2 ^ i) ^^^ (b / 2 ^ i) := Nat.xor_div_two_pow
    rw [ed, xor_bit] at e
    simp only [xorGo, xorBit_eq ha hb]
    rw [← xorGo_eq ha hb n (i + 1) (by omega), e]
    congr 1
    by_cases g : a / 2 ^ i % 2 = b / 2 ^ i % 2
    · simp [g]
    · simp only [g, decide_false, Bool.false_eq_true, if_false, Nat.mul_one, p2]
      rw [w64_fix (by omega) (by omega)]
      omega
theorem xorS_eq {a b : Nat} (ha : a < 65536) (hb : b < 65536) : xorS a b = ((a ^^^ b : Nat) : Int) := by
  have := xorGo_eq ha hb 16 0 rfl
  simpa [xorS, Nat.mod_one] using this
/-- A bit of the text, the first two bytes turned over. -/
def effB (l : List Nat) (j : Nat) : Nat := if j < 2 then 255 - l.getD j 0 else l.getD j 0
theorem getD_lt {l : List Nat} (h : ∀ b ∈ l, b < 256) (j : Nat) : l.getD j 0 < 256 := by
  rw [List.getD_eq_getElem?_getD]
  cases g : l[j]? with
  | none => simp
  | some x => simpa using h x (List.mem_of_getElem? g)
theorem effB_lt {l : List Nat} (h : ∀ b ∈ l, b < 256) (j : Nat) : effB l j < 256 := by
  have := getD_lt h j
  unfold effB; split <;> omega
theorem byteBit_eq {x m j : Nat} (hx : x < 256) (hm : m ≤ 7) : byteBit (x : Int) (8 * j + (7 - m)) = ((x / 2 ^ m % 2 : Nat) : Int) := by
  unfold byteBit
  rw [show (8 * j + (7 - m)) % 8 = 7 - m by omega, show (7 - ((7 - m : Nat) : Int)) = (m : Int) by omega, w64_fix (x := (m : Int)) (by omega) (by omega), u64_fix (x := (m : Int)) (by omega) (by omega)]
  unfold ishr
  rw [show min ((m : Int)).toNat IntKind.u8.bits = m from by rw [Int.toNat_natCast]; exact Nat.min_eq_left (by show m ≤ 8; omega)]
  have e : ((2 : Int) ^ m) = ((2 ^ m : Nat) : Int) := by simp
  rw [e, Int.fdiv_eq_ediv_of_nonneg _ (Int.natCast_nonneg _), show ((x : Int) / ((2 ^ m : Nat) : Int)) = ((x / 2 ^ m : Nat) : Int) from rfl]
  have := Nat.div_le_self x (2 ^ m)
  generalize x / 2 ^ m = A at *
  rw [w64_fix (by omega) (by omega), Int.tmod_eq_emod_of_nonneg (by omega)]
  omega
theorem getD_map_nat (l : List Nat) (j : Nat) : (l.map Int.ofNat).getD j 0 = ((l.getD j 0 : Nat) : Int) := by
  simp only [List.getD_eq_getElem?_getD, List.getElem?_map]
  cases l[j]? <;> rfl
theorem sumBit_eq {l : List Nat} (h : ∀ b ∈ l, b < 256) {m j : Nat} (hm : m ≤ 7) : sumBit (l.map Int.ofNat) (8 * j + (7 - m)) = ((l.getD j 0 / 2 ^ m % 2 : Nat) : Int) := by
  unfold sumBit
  rw [List.length_map, show (8 * j + (7 - m)) / 8 = j by omega, getD_map_nat, byteBit_eq (getD_lt h j) hm]
  by_cases g : j < l.length
  · rw [if_pos (by omega)]
  · rw [if_neg (by omega), List.getD_eq_getElem?_getD, List.getElem?_eq_none (by omega)]
    simp
theorem flip_bit {x m : Nat} (hx : x < 256) (hm : m ≤ 7) : (255 - x) / 2 ^ m % 2 = 1 - x / 2 ^ m % 2 := by
  have : m = 0 ∨ m = 1 ∨ m = 2 ∨ m = 3 ∨ m = 4 ∨ m = 5 ∨ m = 6 ∨ m = 7 := by omega
  rcases this with rfl | rfl | rfl | rfl | rfl | rfl | rfl | rfl
  · rw [show (2 : Nat) ^ 0 = 1 from rfl]; omega
  · rw [show (2 : Nat) ^ 1 = 2 from rfl]; omega
  · rw [show (2 : Nat) ^ 2 = 4 from rfl]; omega
  · rw [show (2 : Nat) ^ 3 = 8 from rfl]; omega
  · rw [show (2 : Nat) ^ 4 = 16 from rfl]; omega
  · rw [show (2 : Nat) ^ 5 = 32 from rfl]; omega
  · rw [show (2 : Nat) ^ 6 = 64 from rfl]; omega
  · rw [show (2 : Nat) ^ 7 = 128 from rfl]; omega
theorem stepBit {R y : Nat} (hR : R < 65536) (hy : y < 2) :
    (if 65536 ≤ w64 (w64 (2 * (R : Int)) + (y : Int)) then xorS (w64 (w64 (w64 (2 * (R : Int)) + (y : Int)) - 65536)) 4129 else w64 (w64 (2 * (R : Int)) + (y : Int))) = ((L R ^^^ y : Nat) : Int) := by
  rw [w64_fix (x := 2 * (R : Int)) (by omega) (by omega), w64_fix (x := 2 * (R : Int) + y) (by omega) (by omega), w64_fix (x := 2 * (R : Int) + y - 65536) (by omega) (by omega), L_val hR]
  by_cases g : 32768 ≤ R
  · rw [if_pos (by omega), if_pos g]
    have e : (2 * (R : Int) + y - 65536) = ((2 * R - 65536 + y : Nat) : Int) := by omega
    have e2 : ((2 * R - 65536) ^^^ 4129) ^^^ y = (2 * R - 65536 + y) ^^^ 4129 := by
      rw [← even_xor (m := 2 * R - 65536) (y := y) (by omega) hy, Nat.xor_assoc, Nat.xor_comm 4129 y, ← Nat.xor_assoc]
    rw [e, e2]
    exact xorS_eq (b := 4129) (by omega) (by omega)
  · rw [if_neg (by omega), if_neg g, even_xor (by omega) hy]
    omega
theorem sumStep_eq {l : List Nat} (h : ∀ b ∈ l, b < 256) {m j R : Nat} (hm : m ≤ 7) (hR : R < 65536) : sumStep (l.map Int.ofNat) (8 * j + (7 - m)) (R : Int) = ((L R ^^^ (effB l j / 2 ^ m % 2) : Nat) : Int) := by
  have hy : effB l j / 2 ^ m % 2 < 2 := by omega
  have hb : (if 8 * j + (7 - m) < 16 then w64 (1 - sumBit (l.map Int.ofNat) (8 * j + (7 - m))) else sumBit (l.map Int.ofNat) (8 * j + (7 - m))) = ((effB l j / 2 ^ m % 2 : Nat) : Int) := by
    rw [sumBit_eq h hm]
    unfold effB
    by_cases g : j < 2
    · rw [if_pos (by omega), if_pos g, flip_bit (getD_lt h j) hm, w64_fix (by omega) (by omega)]
      omega
    · rw [if_neg (by omega), if_neg g]
  unfold sumStep
  rw [hb]
  exact stepBit hR hy
theorem sumByte {l : List Nat} (h : ∀ b ∈ l, b < 256) (n j : Nat) {R : Nat} (hR : R < 65536) : ∀ m, m ≤ 8 →
    sumGo (l.map Int.ofNat) (n + m) (8 * j + (8 - m)) ((Lit (8 - m) R ^^^ (effB l j / 2 ^ m) : Nat) : Int) = sumGo (l.map Int.ofNat) n (8 * (j + 1)) ((Lit 8 R ^^^ effB l j : Nat) : Int)
  | 0, _ => by simp [Nat.mul_add]
  | m + 1, hm => by
    have hx := effB_lt h j
    have h1 := Nat.div_le_self (effB l j) (2 ^ (m + 1))
    have hS : Lit (8 - (m + 1)) R ^^^ (effB l j / 2 ^ (m + 1)) < 65536 := xor_lt16 (Lit_lt _ hR) (by omega)
    rw [show n + (m + 1) = (n + m) + 1 by omega]
    simp only [sumGo]
    rw [show 8 * j + (8 - (m + 1)) = 8 * j + (7 - m) by omega, sumStep_eq h (by omega) hS]
    have e : L (Lit (8 - (m + 1)) R ^^^ (effB l j / 2 ^ (m + 1))) ^^^ (effB l j / 2 ^ m % 2) = Lit (8 - m) R ^^^ (effB l j / 2 ^ m) := by
      rw [L_xor, ← Lit_succ, show 8 - (m + 1) + 1 = 8 - m by omega, L_val (x := effB l j / 2 ^ (m + 1)) (by omega), if_neg (by omega), Nat.xor_assoc, even_xor (m := 2 * (effB l j / 2 ^ (m + 1))) (y := effB l j / 2 ^ m % 2) (by omega) (by omega)]
      congr 1
      rw [Nat.pow_succ, ← Nat.div_div_eq_div_mul]
      omega
    rw [e, show 8 * j + (7 - m) + 1 = 8 * j + (8 - m) by omega]
    exact sumByte h n j hR m (by omega)
def aIt (l : List Nat) : Nat → Nat → Nat → Nat
  | 0, _, R => R
  | k + 1, j, R => aIt l k (j + 1) (Lit 8 R ^^^ effB l j)
theorem sumGo_eq {l : List Nat} (h : ∀ b ∈ l, b < 256) : ∀ (k j : Nat) {R : Nat}, R < 65536 → sumGo (l.map Int.ofNat) (8 * k) (8 * j) (R : Int) = ((aIt l k j R : Nat) : Int)
  | 0, j, R, _ => rfl
  | k + 1, j, R, hR => by
    have hx := effB_lt h j
    have := sumByte h (8 * k) j hR 8 (by omega)
    rw [show effB l j / 2 ^ 8 = 0 from Nat.div_eq_of_lt (by omega), show 8 - 8 = 0 from rfl] at this
    simp only [Lit, Nat.xor_zero, Nat.add_zero] at this
    rw [show 8 * (k + 1) = 8 * k + 8 by omega, this]
    simp only [aIt]
    exact sumGo_eq h k (j + 1) (xor_lt16 (Lit_lt 8 hR) (by omega))
def aL : Nat → List Nat → Nat
  | a, [] => a
  | a, b :: r => aL (Lit 8 a ^^^ b) r
theorem aIt_L {l : List Nat} : ∀ (r : List Nat) (j n R : Nat), 2 ≤ j → l.drop j = r → aIt l (r.length + n) j R = aIt l n (j + r.length) (aL R r)
  | [], j, n, R, _, _ => by simp [aL]
  | b :: r, j, n, R, hj, hd => by
    have hb : l[j]? = some b := by
      have := congrArg (fun x => x[0]?) hd
      simpa using this
    have hr : l.drop (j + 1) = r := by
      have := congrArg List.tail hd
      simpa using this
    have he : effB l j = b := by
      unfold effB
      rw [if_neg (by omega), List.getD_eq_getElem?_getD, hb]; rfl
    rw [List.length_cons, show r.length + 1 + n = (r.length + n) + 1 by omega]
    simp only [aIt, aL]
    rw [he, aIt_L r (j + 1) n _ (by omega) hr, show j + 1 + r.length = j + (r.length + 1) by omega]
theorem dGo_aL : ∀ (r : List Nat) (a : Nat), (∀ b ∈ r, b < 256) → dGo (Lit 16 a) r = Lit 16 (aL a r)
  | [], a, _ => rfl
  | b :: r, a, h => by
    have hb := h b (by simp)
    simp only [dGo, aL]
    have e : Lit 8 (Lit 16 a ^^^ b * 256) = Lit 16 (Lit 8 a ^^^ b) := by
      rw [← Lit8_up hb, show Lit 16 a = Lit 8 (Lit 8 a) from Lit_add 8 8 a, ← Lit_xor, ← Lit_add]
    rw [e]
    exact dGo_aL r _ (fun x hx => h x (by simp [hx]))
theorem not8 {b : Nat} (h : b < 256) : 255 ^^^ b = 255 - b := by
  have e1 : (255 ^^^ b) ^^^ b = 255 := by rw [Nat.xor_assoc, Nat.xor_self, Nat.xor_zero]
  have key : ∀ m : Nat, (255 ^^^ b) / 2 ^ m % 2 = if (255 / 2 ^ m) % 2 = (b / 2 ^ m) % 2 then 0 else 1 := fun m => by
    rw [Nat.xor_div_two_pow, xor_bit]
  have k0 := key 0; have k1 := key 1; have k2 := key 2; have k3 := key 3; have k4 := key 4; have k5 := key 5; have k6 := key 6; have k7 := key 7
  have hl : 255 ^^^ b < 256 := Nat.xor_lt_two_pow (n := 8) (by omega) h
  simp only [Nat.pow_zero, Nat.div_one, show (2 : Nat) ^ 1 = 2 from rfl, show (2 : Nat) ^ 2 = 4 from rfl, show (2 : Nat) ^ 3 = 8 from rfl, show (2 : Nat) ^ 4 = 16 from rfl, show (2 : Nat) ^ 5 = 32 from rfl, show (2 : Nat) ^ 6 = 64 from rfl, show (2 : Nat) ^ 7 = 128 from rfl, Nat.reduceDiv, Nat.reduceMod] at k0 k1 k2 k3 k4 k5 k6 k7
  generalize 255 ^^^ b = z at *
  have i0 : z % 2 = 1 - b % 2 := by split at k0 <;> omega
  have i1 : z / 2 % 2 = 1 - b / 2 % 2 := by split at k1 <;> omega
  have i2 : z / 4 % 2 = 1 - b / 4 % 2 := by split at k2 <;> omega
  have i3 : z / 8 % 2 = 1 - b / 8 % 2 := by split at k3 <;> omega
  have i4 : z / 16 % 2 = 1 - b / 16 % 2 := by split at k4 <;> omega
  have i5 : z / 32 % 2 = 1 - b / 32 % 2 := by split at k5 <;> omega
  have i6 : z / 64 % 2 = 1 - b / 64 % 2 := by split at k6 <;> omega
  have i7 : z / 128 % 2 = 1 - b / 128 % 2 := by split at k7 <;> omega
  omega
theorem start_same {b0 b1 : Nat} (h0 : b0 < 256) (h1 : b1 < 256) : (65535 ^^^ b0 * 256) ^^^ b1 = (255 - b0) * 256 ^^^ (255 - b1) := by
  have e : 65535 = 255 * 256 ^^^ 255 := by decide
  have e0 : 255 * 256 ^^^ b0 * 256 = (255 ^^^ b0) * 256 := by
    have := Nat.shiftLeft_xor_distrib (a := 255) (b := b0) (i := 8)
    simp only [Nat.shiftLeft_eq, show (2 : Nat) ^ 8 = 256 from rfl] at this
    exact this.symm
  rw [← not8 h0, ← not8 h1, ← e0, e]
  rw [Nat.xor_assoc (255 * 256), Nat.xor_comm 255 (b0 * 256), ← Nat.xor_assoc (255 * 256), Nat.xor_assoc]
theorem refSum_eq {b0 b1 : Nat} {r : List Nat} (h : ∀ b ∈ b0 :: b1 :: r, b < 256) : refSum ((b0 :: b1 :: r).map Int.ofNat) = ((dGo 65535 (b0 :: b1 :: r) : Nat) : Int) := by
  have h0 := h b0 (by simp)
  have h1 := h b1 (by simp)
  have hr : ∀ b ∈ r, b < 256 := fun b hb => h b (by simp [hb])
  unfold refSum
  have hg := sumGo_eq h (r.length + 4) 0 (R := 0) (by omega)
  rw [show 8 * ((b0 :: b1 :: r).map Int.ofNat).length + 16 = 8 * (r.length + 4) by simp; omega]
  rw [show ((0 : Nat) : Int) = 0 from rfl] at hg
  rw [hg]
  congr 1
  have u : ∀ R, aIt (b0 :: b1 :: r) (r.length + 4) 0 R = aIt (b0 :: b1 :: r) (r.length + 2) 2 (Lit 8 (Lit 8 R ^^^ effB (b0 :: b1 :: r) 0) ^^^ effB (b0 :: b1 :: r) 1) := fun R => rfl
  rw [u]
  have e0 : effB (b0 :: b1 :: r) 0 = 255 - b0 := by simp [effB]
  have e1 : effB (b0 :: b1 :: r) 1 = 255 - b1 := by simp [effB]
  have z : Lit 8 0 = 0 := by decide
  rw [e0, e1, aIt_L r 2 2 _ (by omega) rfl]
  simp only [aIt]
  have o : ∀ j, (b0 :: b1 :: r).length ≤ j → effB (b0 :: b1 :: r) j = 0 := fun j hj => by
    have : 2 ≤ j := by simp at hj; omega
    unfold effB
    rw [if_neg (by omega), List.getD_eq_getElem?_getD, List.getElem?_eq_none hj]; rfl
  rw [o _ (by simp; omega), o _ (by simp; omega), Nat.xor_zero, Nat.xor_zero, ← Lit_add]
  simp only [dGo]
  have e : Lit 8 (Lit 8 (65535 ^^^ b0 * 256) ^^^ b1 * 256) = Lit 16 ((65535 ^^^ b0 * 256) ^^^ b1) := by
    rw [← Lit8_up h1, ← Lit_xor, ← Lit_add]
  rw [e, start_same h0 h1, dGo_aL r _ hr, z, Nat.zero_xor, Lit8_up (show 255 - b0 < 256 by omega)]

end
end Go.Ab
namespace Go.Ab
section
variable {ext : Callee}
theorem nat_list : ∀ {b : List Int}, (∀ x ∈ b, 0 ≤ x ∧ x < 256) → ∃ l : List Nat, b = l.map Int.ofNat ∧ ∀ x ∈ l, x < 256
  | [], _ => ⟨[], rfl, fun x hx => by cases hx⟩
  | x :: r, h => by
    obtain ⟨l, h1, h2⟩ := nat_list (b := r) fun y hy => h y (by simp [hy])
    have hx := h x (by simp)
    refine ⟨x.toNat :: l, ?_, ?_⟩
    · rw [List.map_cons, ← h1]
      congr 1
      show x = ((x.toNat : Nat) : Int)
      omega
    · intro y hy
      rcases List.mem_cons.1 hy with rfl | hy
      · omega
      · exact h2 y hy
theorem sizeK_c3 (x : Int) : sizeK x = 0 ∨ sizeK x = 2 ∨ sizeK x = 4 := by
  unfold sizeK
  repeat' split
  all_goals simp
theorem split_end {l : List Nat} {n : Nat} (h : l.length = n + 2) : ∃ hi lo, l = l.take n ++ [hi, lo] ∧ l[n]? = some hi ∧ l[n + 1]? = some lo := by
  obtain ⟨hi, h1⟩ : ∃ x, l[n]? = some x := ⟨l[n]'(by omega), List.getElem?_eq_getElem (by omega)⟩
  obtain ⟨lo, h2⟩ : ∃ x, l[n + 1]? = some x := ⟨l[n + 1]'(by omega), List.getElem?_eq_getElem (by omega)⟩
  refine ⟨hi, lo, ?_, h1, h2⟩
  have a1 : l.take (n + 1) = l.take n ++ [hi] := take_succ_get h1
  have a2 : l.take (n + 1 + 1) = l.take (n + 1) ++ [lo] := take_succ_get h2
  rw [List.take_of_length_le (by omega)] at a2
  rw [a1, List.append_assoc] at a2
  exact a2
theorem frame_same {b : List Int} (h : ∀ x ∈ b, 0 ≤ x ∧ x < 256) : ((frameGet b).2 = 0 ↔ (refGet b).2 = 0) ∧ ((frameGet b).2 = 0 → (frameGet b).1.seq = (refGet b).1.seq) := by
  match b, h with
  | [], _ => simp [frameGet, refGet]
  | [_], _ => simp [frameGet, refGet]
  | [_, _], _ => simp [frameGet, refGet]
  | [_, _, _], _ => simp [frameGet, refGet]
  | [_, _, _, _], _ => simp [frameGet, refGet]
  | x0 :: x1 :: x2 :: x3 :: x4 :: r, h =>
    obtain ⟨l, hl, h256⟩ := nat_list h
    have hlen := congrArg List.length hl
    unfold frameGet refGet
    simp only
    generalize hb : x0 :: x1 :: x2 :: x3 :: x4 :: r = b at *
    rcases sizeK_c3 (w64 x0) with hk | hk
    · simp [hk]
    have hk0 : ¬ sizeK (w64 x0) = 0 := by omega
    have hn1 : w64 (w64 (3 + sizeK (w64 x0)) + 2) = 5 + sizeK (w64 x0) := by
      rw [w64_fix (x := 3 + sizeK (w64 x0)) (by omega) (by omega), w64_fix (by omega) (by omega)]; omega
    have hn2 : w64 (5 + sizeK (w64 x0)) = 5 + sizeK (w64 x0) := w64_fix (by omega) (by omega)
    rw [hn1, hn2, if_neg hk0, if_neg hk0]
    by_cases q2 : w64 x2 = sizeK (w64 x0)
    · have z2 : ¬ ¬ w64 x2 = sizeK (w64 x0) := fun e => e q2
      rw [if_neg z2, if_neg z2]
      by_cases q3 : (b.length : Int) = 5 + sizeK (w64 x0)
      · have z3 : ¬ ¬ (b.length : Int) = 5 + sizeK (w64 x0) := fun e => e q3
        rw [if_neg z3, if_neg z3]
        obtain ⟨n, hn⟩ : ∃ n : Nat, sizeK (w64 x0) = n := ⟨(sizeK (w64 x0)).toNat, by omega⟩
        rw [hn] at q3 ⊢
        rw [Int.toNat_natCast]
        obtain ⟨hi, lo, e1, e2, e3⟩ := split_end (l := l) (n := 3 + n) (by rw [List.length_map] at hlen; omega)
        have m1 := h256 hi (List.mem_of_getElem? e2)
        have m2 := h256 lo (List.mem_of_getElem? e3)
        have mt : ∀ x ∈ l.take (3 + n), x < 256 := fun x hx => h256 x (List.mem_of_mem_take hx)
        have g1 : b.getD (3 + n) 0 = (hi : Int) := by rw [hl, getD_map_nat, List.getD_eq_getElem?_getD, e2]; rfl
        have g2 : b.getD (4 + n) 0 = (lo : Int) := by rw [hl, getD_map_nat, List.getD_eq_getElem?_getD, show 4 + n = 3 + n + 1 by omega, e3]; rfl
        have hsum : refSum (b.take (3 + n)) = ((dGo 65535 (l.take (3 + n)) : Nat) : Int) := by
          rw [hl, ← List.map_take]
          have hl3 : 3 ≤ (l.take (3 + n)).length := by rw [List.length_take]; rw [List.length_map] at hlen; omega
          match ht : l.take (3 + n), hl3 with
          | b0 :: b1 :: r', _ =>
            rw [ht] at mt
            exact refSum_eq mt
        have hcrc : crcGo 65535 b = ((dGo 65535 l : Nat) : Int) := by
          rw [hl]; exact crcGo_d l (n := 65535) (by omega) h256
        have hend := dGo_end (n := 65535) (by omega) mt m1 m2
        rw [← e1] at hend
        have key : (crcGo 65535 b = 0) ↔ (refSum (b.take (3 + n)) = w64 (w64 (w64 (b.getD (3 + n) 0) * 256) + w64 (b.getD (4 + n) 0))) := by
          rw [hcrc, hsum, g1, g2, w64_fix (x := (hi : Int)) (by omega) (by omega), w64_fix (x := (lo : Int)) (by omega) (by omega), w64_fix (x := (hi : Int) * 256) (by omega) (by omega), w64_fix (x := (hi : Int) * 256 + lo) (by omega) (by omega)]
          generalize dGo 65535 l = u at *
          generalize dGo 65535 (l.take (3 + n)) = v at *
          constructor
          · intro h0; have := hend.1 (by omega); omega
          · intro h0; have := hend.2 (by omega); omega
        by_cases q4 : crcGo 65535 b = 0
        · have z4 : ¬ ¬ crcGo 65535 b = 0 := fun e => e q4
          have z5 := fun (e : ¬ _) => e (key.1 q4)
          rw [if_neg z4, if_neg z5]
          simp
        · rw [if_pos q4, if_pos (fun e => q4 (key.2 e))]
          simp
      · rw [if_pos q3, if_pos q3]; simp
    · rw [if_pos q2, if_pos q2]; simp
theorem iand255 {k : Nat} (h : k < 65536) : iand .i64 (k : Int) 255 = (k : Int).tmod 256 := by
  have e : iand .i64 (k : Int) 255 = w64 ((BitVec.ofInt 64 (k : Int) &&& BitVec.ofInt 64 ((255 : Nat) : Int)).toNat : Nat) := rfl
  have e1 : (BitVec.ofInt 64 (k : Int)).toNat = k := by rw [BitVec.toNat_ofInt]; omega
  have e2 : (BitVec.ofInt 64 ((255 : Nat) : Int)).toNat = 2 ^ 8 - 1 := by decide
  rw [e, BitVec.toNat_and, e1, e2, Nat.and_two_pow_sub_one_eq_mod, w64_fix (by omega) (by omega), Int.tmod_eq_emod_of_nonneg (by omega)]
  omega
/-- Bytes are bytes. -/
def Bytes (s : Script) : Prop := ∀ k ∈ s.ticks, ∀ b ∈ k.junk, ∀ x ∈ b, 0 ≤ x ∧ x < 256
theorem junkBad_same {k : Nat} (hk : k < 65536) {b : List Int} (h : ∀ x ∈ b, 0 ≤ x ∧ x < 256) : junkBad k b = refJunkBad k b := by
  obtain ⟨h1, h2⟩ := frame_same h
  unfold junkBad refJunkBad
  rw [iand255 hk]
  by_cases q : (frameGet b).2 = 0
  · rw [if_pos q, if_pos (h1.1 q), h2 q]
  · rw [if_neg q, if_neg fun e => q (h1.2 e)]
theorem junkGo_same {k : Nat} (hk : k < 65536) : ∀ {l : List (List Int)}, (∀ b ∈ l, ∀ x ∈ b, 0 ≤ x ∧ x < 256) → junkGo k l = refJunkGo k l
  | [], _ => rfl
  | b :: r, h => by
    simp only [junkGo, refJunkGo]
    rw [junkBad_same hk (h b (by simp)), junkGo_same hk (l := r) fun x hx => h x (by simp [hx])]
theorem junkAll_same : ∀ {l : List Tick} {i : Nat}, i + l.length < 65536 → (∀ k ∈ l, ∀ b ∈ k.junk, ∀ x ∈ b, 0 ≤ x ∧ x < 256) → junkAll i l = refJunkAll i (l.map refTick)
  | [], _, _, _ => rfl
  | k :: r, i, hi, h => by
    simp only [List.length_cons] at hi
    simp only [List.map_cons, junkAll, refJunkAll]
    rw [show (refTick k).junk = k.junk from rfl, junkGo_same (by omega) (h k (by simp)), junkAll_same (l := r) (i := i + 1) (by omega) fun x hx => h x (by simp [hx])]

end
end Go.Ab
namespace Go.Ab
section
variable {ext : Callee}
/-- The code's answer is the document's. -/
theorem law4 (c : Config) (t : Track) (s : Script) (hb : Bytes s) (hg : great t s = false) : admitCheck c t s = refCheck c t (refS s) := by
  have hn : s.ticks.length ≤ 120 := (small_of hg).ticks
  unfold admitCheck refCheck
  rw [show (refS s).route = s.route from rfl, route_same, onOk_same, speedsOk_same, nums_same]
  by_cases q1 : (cfgFits c t).1 = 0
  · have n1 : ¬ ¬ (cfgFits c t).1 = 0 := fun e => e q1
    have n2 : ¬ ¬ (refFits c t).1 = 0 := fun e => e ((fits_same c t).2 q1)
    rw [if_neg n1, if_neg n2]
    by_cases q2 : routeOk t s = false
    · rw [if_pos q2, if_pos q2]
    rw [if_neg q2, if_neg q2]
    by_cases q3 : onOk t s = false
    · rw [if_pos q3, if_pos q3]
    rw [if_neg q3, if_neg q3]
    by_cases q4 : speedsOk c s = false
    · rw [if_pos q4, if_pos q4]
    rw [if_neg q4, if_neg q4]
    by_cases q5 : wheelsOk c s = false
    · rw [if_pos q5, if_pos q5]; rfl
    rw [if_neg q5, if_neg q5]
    by_cases q6 : numsGo c s.ticks = false
    · rw [if_pos q6, if_pos q6]; rfl
    rw [if_neg q6, if_neg q6]
    have n3 : ¬ ¬ (0 : Int) = 0 := fun e => e rfl
    rw [if_neg n3]
    have A : Adm c t s := adm_parts q1 (by simpa using q4) (by simpa using q5) (by simpa using q6)
    have ht : (trkCheck t).1 = 0 := by
      unfold cfgFits at q1
      by_cases z : (cfgCheck c).1 = 0
      · rw [if_neg (by simp [z])] at q1
        by_cases z2 : (trkCheck t).1 = 0
        · exact z2
        · rw [if_pos z2] at q1; exact absurd q1 (by decide)
      · rw [if_pos z] at q1; exact absurd q1 z
    rw [show (refS s).ticks = s.ticks.map refTick from rfl, ← all_same A hn s.ticks 0 rfl, reads_same (trk_rise ht), ← junkAll_same (by omega) hb]
  · rw [if_pos q1, if_pos (fun e => q1 ((fits_same c t).1 e))]

end
end Go.Ab
