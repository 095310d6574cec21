/-
  What functions of the program come to.
  Conditions: none.
-/
import Derived.Test.YtnnjmbblpmghfaaGreatW
import Derived.Test.YtnnjmbblpmghfaaGreatDt
import Derived.Test.YtnnjmbblpmghfaaGreatTb
set_option linter.unusedSimpArgs false
set_option linter.unusedVariables false
namespace Go.Ab
section
variable {ext : Callee}
abbrev U (x : Int) : C := .d (.i .u64 x)
abbrev J (x : Int) : C := .d (.i .i64 x)
abbrev V.U (x : Int) : V := .c (.d (.i .u64 x))

def numSize (a : Int) : Int := if a < 0 then IntKind.u64.wrap (0 - IntKind.u64.wrap a) else IntKind.u64.wrap a
set_option maxHeartbeats 4000000 in
theorem c219 {H : Heap} (a : Int) : callL tab ext 219 [.I a] H = some (.U (numSize a), H) := by
  rw [cl_219 rfl, B219]
  simp (maxSteps := 4000000) only [go_sem, ↓reduceIte, Nat.reduceMul, Int.reduceLT, Int.reduceNeg, Int.reduceEq, Int.reduceLE, Int.reduceAdd, Int.reduceSub, Nat.reduceEqDiff, Nat.reduceLeDiff, Nat.reduceLT, Nat.reduceAdd, reduceCtorEq, List.getElem?_map, Option.map_some, List.length_map, map_clC, map_nmC, ei64_0, eu8_0, eL_0]
  try simp only [numSize]
  all_goals ((repeat' (first | with_reducible rfl | with_reducible contradiction | split)) <;> (first | with_reducible rfl | (simp_all; done) | (simp_all; omega) | omega))

def numAdd (a b : Int) : Int × Bool := if (decide (0 ≤ a) == decide (0 ≤ b)) && !(decide (0 ≤ w64 (a + b)) == decide (0 ≤ a)) then (0, false) else (w64 (a + b), true)
set_option maxHeartbeats 4000000 in
theorem c181 {H : Heap} (a b : Int) : callL tab ext 181 [.I a, .I b] H = some (.tup [.I (numAdd a b).1, .B (numAdd a b).2], H) := by
  rw [cl_181 rfl, B181]
  simp (maxSteps := 4000000) only [go_sem, ↓reduceIte, Nat.reduceMul, Int.reduceLT, Int.reduceNeg, Int.reduceEq, Int.reduceLE, Int.reduceAdd, Int.reduceSub, Nat.reduceEqDiff, Nat.reduceLeDiff, Nat.reduceLT, Nat.reduceAdd, reduceCtorEq, List.getElem?_map, Option.map_some, List.length_map, map_clC, map_nmC, ei64_0, eu8_0, eL_0, eqbV]
  try simp only [numAdd]
  all_goals ((repeat' (first | with_reducible rfl | with_reducible contradiction | split)) <;> (first | with_reducible rfl | (simp_all; done) | (simp_all; omega) | omega))

def numSub (a b : Int) : Int × Bool := if !(decide (0 ≤ a) == decide (0 ≤ b)) && !(decide (0 ≤ w64 (a - b)) == decide (0 ≤ a)) then (0, false) else (w64 (a - b), true)
set_option maxHeartbeats 4000000 in
theorem c291 {H : Heap} (a b : Int) : callL tab ext 291 [.I a, .I b] H = some (.tup [.I (numSub a b).1, .B (numSub a b).2], H) := by
  rw [cl_291 rfl, B291]
  simp (maxSteps := 4000000) only [go_sem, ↓reduceIte, Nat.reduceMul, Int.reduceLT, Int.reduceNeg, Int.reduceEq, Int.reduceLE, Int.reduceAdd, Int.reduceSub, Nat.reduceEqDiff, Nat.reduceLeDiff, Nat.reduceLT, Nat.reduceAdd, reduceCtorEq, List.getElem?_map, Option.map_some, List.length_map, map_clC, map_nmC, ei64_0, eu8_0, eL_0, eqbV]
  try simp only [numSub]
  all_goals ((repeat' (first | with_reducible rfl | with_reducible contradiction | split)) <;> (first | with_reducible rfl | (simp_all; done) | (simp_all; omega) | omega))

set_option maxHeartbeats 4000000 in
theorem c168 {H : Heap} (x : Int) : callL tab ext 168 [.I x] H = some (.agg [J x, J x], H) := by
  rw [cl_168 rfl, B168]
  simp (maxSteps := 4000000) only [go_sem, ↓reduceIte, Nat.reduceMul, Int.reduceLT, Int.reduceNeg, Int.reduceEq, Int.reduceLE, Int.reduceAdd, Int.reduceSub, Nat.reduceEqDiff, Nat.reduceLeDiff, Nat.reduceLT, Nat.reduceAdd, reduceCtorEq, Span.enc, Span.encC_all, Span.enc_0, Span.enc_1, Span.enc_all, Span.enc_len, List.getElem?_map, Option.map_some, List.length_map, map_clC, map_nmC, ei64_0, eu8_0, eL_0]
  all_goals ((repeat' (first | with_reducible rfl | with_reducible contradiction | split)) <;> (first | with_reducible rfl | (simp_all; done) | (simp_all; omega) | omega))
set_option maxHeartbeats 4000000 in
theorem c75 {H : Heap} (lo hi : Int) : callL tab ext 75 [.agg [J lo, J hi]] H = some (.B (decide (lo ≤ hi)), H) := by
  rw [cl_75 rfl, B75]
  simp (maxSteps := 4000000) only [go_sem, ↓reduceIte, Nat.reduceMul, Int.reduceLT, Int.reduceNeg, Int.reduceEq, Int.reduceLE, Int.reduceAdd, Int.reduceSub, Nat.reduceEqDiff, Nat.reduceLeDiff, Nat.reduceLT, Nat.reduceAdd, reduceCtorEq, Span.enc, Span.encC_all, Span.enc_0, Span.enc_1, Span.enc_all, Span.enc_len, List.getElem?_map, Option.map_some, List.length_map, map_clC, map_nmC, ei64_0, eu8_0, eL_0]
  all_goals ((repeat' (first | with_reducible rfl | with_reducible contradiction | split)) <;> (first | with_reducible rfl | (simp_all; done) | (simp_all; omega) | omega))
def spanHas (s : Span) (x : Int) : Bool := decide (s.lo ≤ x) && decide (x ≤ s.hi)
def spanBoth (lo : Int) (a : Bool) (hi : Int) (b : Bool) : Span × Bool := if a = false ∨ b = false ∨ hi < lo then (⟨0, 0⟩, false) else (⟨lo, hi⟩, true)
set_option maxHeartbeats 4000000 in
theorem c261 {H : Heap} (lo hi : Int) (a b : Bool) : callL tab ext 261 [.I lo, .B a, .I hi, .B b] H = some (.tup [.agg [J (spanBoth lo a hi b).1.lo, J (spanBoth lo a hi b).1.hi], .B (spanBoth lo a hi b).2], H) := by
  rw [cl_261 rfl, B261]
  simp (maxSteps := 4000000) only [go_sem, ↓reduceIte, Nat.reduceMul, Int.reduceLT, Int.reduceNeg, Int.reduceEq, Int.reduceLE, Int.reduceAdd, Int.reduceSub, Nat.reduceEqDiff, Nat.reduceLeDiff, Nat.reduceLT, Nat.reduceAdd, reduceCtorEq, Span.enc, Span.encC_all, Span.enc_0, Span.enc_1, Span.enc_all, Span.enc_len, List.getElem?_map, Option.map_some, List.length_map, map_clC, map_nmC, ei64_0, eu8_0, eL_0]
  try simp only [spanBoth]
  all_goals ((repeat' (first | with_reducible rfl | with_reducible contradiction | split)) <;> (first | with_reducible rfl | (simp_all; done) | (simp_all; omega) | omega))
def spanHull (s t : Span) : Span := if ¬ s.lo ≤ s.hi then t else if ¬ t.lo ≤ t.hi then s else ⟨if t.lo < s.lo then t.lo else s.lo, if t.hi > s.hi then t.hi else s.hi⟩
set_option maxHeartbeats 4000000 in
theorem c170 {H : Heap} (a b c d : Int) : callL tab ext 170 [.agg [J a, J b], .agg [J c, J d]] H = some (.agg [J (spanHull ⟨a, b⟩ ⟨c, d⟩).lo, J (spanHull ⟨a, b⟩ ⟨c, d⟩).hi], H) := by
  rw [cl_170 rfl, B170]
  simp (maxSteps := 4000000) only [go_sem, ↓reduceIte, Nat.reduceMul, Int.reduceLT, Int.reduceNeg, Int.reduceEq, Int.reduceLE, Int.reduceAdd, Int.reduceSub, Nat.reduceEqDiff, Nat.reduceLeDiff, Nat.reduceLT, Nat.reduceAdd, reduceCtorEq, Span.enc, Span.encC_all, Span.enc_0, Span.enc_1, Span.enc_all, Span.enc_len, List.getElem?_map, Option.map_some, List.length_map, map_clC, map_nmC, ei64_0, eu8_0, eL_0, c75]
  try simp only [spanHull]
  all_goals ((repeat' (first | with_reducible rfl | with_reducible contradiction | split)) <;> (first | with_reducible rfl | (simp_all; done) | (simp_all; omega) | omega))

end
end Go.Ab
namespace Go.Ab
section
variable {ext : Callee}
def u64 (x : Int) : Int := IntKind.u64.wrap x
theorem u64_eq (x : Int) : IntKind.u64.wrap x = u64 x := rfl
def wMul (a b : Int) : U128 :=
  let a1 := ishr .u64 a 32; let a0 := iand .u64 a 4294967295
  let b1 := ishr .u64 b 32; let b0 := iand .u64 b 4294967295
  let p := u64 (a0 * b0)
  let m := u64 (u64 (a1 * b0) + ishr .u64 p 32)
  let n := u64 (u64 (a0 * b1) + iand .u64 m 4294967295)
  ⟨u64 (u64 (u64 (a1 * b1) + ishr .u64 m 32) + ishr .u64 n 32), ior .u64 (ishl .u64 n 32) (iand .u64 p 4294967295)⟩
set_option maxHeartbeats 4000000 in
theorem c218 {H : Heap} (a b : Int) : callL tab ext 218 [.U a, .U b] H = some (.agg [U (wMul a b).hi, U (wMul a b).lo], H) := by
  rw [cl_218 rfl, B218]
  simp (maxSteps := 4000000) only [go_sem, ↓reduceIte, Nat.reduceMul, Int.reduceLT, Int.reduceNeg, Int.reduceEq, Int.reduceLE, Int.reduceAdd, Int.reduceSub, Nat.reduceEqDiff, Nat.reduceLeDiff, Nat.reduceLT, Nat.reduceAdd, reduceCtorEq, U128.enc, U128.encC_all, U128.enc_0, U128.enc_1, U128.enc_all, U128.enc_len, List.getElem?_map, Option.map_some, List.length_map, map_clC, map_nmC, ei64_0, eu8_0, eL_0]
  rfl
def wCmp (x y : U128) : Int := if x.hi = y.hi ∧ x.lo = y.lo then 0 else if x.hi < y.hi ∨ (x.hi = y.hi ∧ x.lo < y.lo) then -1 else 1
set_option maxHeartbeats 4000000 in
theorem c285 {H : Heap} (a b c d : Int) : callL tab ext 285 [.agg [U a, U b], .agg [U c, U d]] H = some (.I (wCmp ⟨a, b⟩ ⟨c, d⟩), H) := by
  rw [cl_285 rfl, B285]
  simp (maxSteps := 4000000) only [go_sem, ↓reduceIte, Nat.reduceMul, Int.reduceLT, Int.reduceNeg, Int.reduceEq, Int.reduceLE, Int.reduceAdd, Int.reduceSub, Nat.reduceEqDiff, Nat.reduceLeDiff, Nat.reduceLT, Nat.reduceAdd, reduceCtorEq, U128.enc, U128.encC_all, U128.enc_0, U128.enc_1, U128.enc_all, U128.enc_len, List.getElem?_map, Option.map_some, List.length_map, map_clC, map_nmC, ei64_0, eu8_0, eL_0, eqCs, eqD, Bool.and_eq_true, beq_iff_eq]
  try simp only [wCmp]
  all_goals ((repeat' (first | with_reducible rfl | with_reducible contradiction | split)) <;> (first | with_reducible rfl | (simp_all; done) | (simp_all; omega) | omega))
def wShl (x : U128) (n : Int) : U128 := if n ≤ 0 then x else if 64 ≤ n then ⟨ishl .u64 x.lo (u64 (w64 (n - 64))), 0⟩ else ⟨ior .u64 (ishl .u64 x.hi (u64 n)) (ishr .u64 x.lo (u64 (w64 (64 - n)))), ishl .u64 x.lo (u64 n)⟩
def wShr (x : U128) (n : Int) : U128 := if n ≤ 0 then x else if 64 ≤ n then ⟨0, ishr .u64 x.hi (u64 (w64 (n - 64)))⟩ else ⟨ishr .u64 x.hi (u64 n), ior .u64 (ishr .u64 x.lo (u64 n)) (ishl .u64 x.hi (u64 (w64 (64 - n))))⟩
theorem u64_nn (x : Int) : (u64 x < 0) = False := by
  simp only [u64, eq_iff_iff, iff_false, Int.not_lt]
  simp [IntKind.wrap, IntKind.bits, IntKind.signed]; omega
set_option maxHeartbeats 4000000 in
theorem c283 {H : Heap} (a b n : Int) : callL tab ext 283 [.agg [U a, U b], .I n] H = some (.agg [U (wShl ⟨a, b⟩ n).hi, U (wShl ⟨a, b⟩ n).lo], H) := by
  rw [cl_283 rfl, B283]
  simp (maxSteps := 4000000) only [go_sem, ↓reduceIte, Nat.reduceMul, Int.reduceLT, Int.reduceNeg, Int.reduceEq, Int.reduceLE, Int.reduceAdd, Int.reduceSub, Nat.reduceEqDiff, Nat.reduceLeDiff, Nat.reduceLT, Nat.reduceAdd, reduceCtorEq, U128.enc, U128.encC_all, U128.enc_0, U128.enc_1, U128.enc_all, U128.enc_len, List.getElem?_map, Option.map_some, List.length_map, map_clC, map_nmC, ei64_0, eu8_0, eL_0, u64_eq, u64_nn]
  try simp only [wShl]
  all_goals ((repeat' (first | with_reducible rfl | with_reducible contradiction | split)) <;> (first | with_reducible rfl | (simp_all; done) | (simp_all; omega) | omega))
set_option maxHeartbeats 4000000 in
theorem c284 {H : Heap} (a b n : Int) : callL tab ext 284 [.agg [U a, U b], .I n] H = some (.agg [U (wShr ⟨a, b⟩ n).hi, U (wShr ⟨a, b⟩ n).lo], H) := by
  rw [cl_284 rfl, B284]
  simp (maxSteps := 4000000) only [go_sem, ↓reduceIte, Nat.reduceMul, Int.reduceLT, Int.reduceNeg, Int.reduceEq, Int.reduceLE, Int.reduceAdd, Int.reduceSub, Nat.reduceEqDiff, Nat.reduceLeDiff, Nat.reduceLT, Nat.reduceAdd, reduceCtorEq, U128.enc, U128.encC_all, U128.enc_0, U128.enc_1, U128.enc_all, U128.enc_len, List.getElem?_map, Option.map_some, List.length_map, map_clC, map_nmC, ei64_0, eu8_0, eL_0, u64_eq, u64_nn]
  try simp only [wShr]
  all_goals ((repeat' (first | with_reducible rfl | with_reducible contradiction | split)) <;> (first | with_reducible rfl | (simp_all; done) | (simp_all; omega) | omega))
def wSub (x y : U128) : U128 := ⟨if x.lo < y.lo then u64 (u64 (x.hi - y.hi) - 1) else u64 (x.hi - y.hi), u64 (x.lo - y.lo)⟩
set_option maxHeartbeats 4000000 in
theorem c286 {H : Heap} (a b c d : Int) : callL tab ext 286 [.agg [U a, U b], .agg [U c, U d]] H = some (.tup [.agg [U (wSub ⟨a, b⟩ ⟨c, d⟩).hi, U (wSub ⟨a, b⟩ ⟨c, d⟩).lo], .B (decide (wCmp ⟨a, b⟩ ⟨c, d⟩ < 0))], H) := by
  rw [cl_286 rfl, B286]
  simp (maxSteps := 4000000) only [↓r286_4, go_sem, ↓reduceIte, Nat.reduceMul, Int.reduceLT, Int.reduceNeg, Int.reduceEq, Int.reduceLE, Int.reduceAdd, Int.reduceSub, Nat.reduceEqDiff, Nat.reduceLeDiff, Nat.reduceLT, Nat.reduceAdd, reduceCtorEq, U128.enc, U128.encC_all, U128.enc_0, U128.enc_1, U128.enc_all, U128.enc_len, List.getElem?_map, Option.map_some, List.length_map, map_clC, map_nmC, ei64_0, eu8_0, eL_0, u64_eq, c285]
  try simp only [wSub]
  all_goals ((repeat' (first | with_reducible rfl | with_reducible contradiction | split)) <;> (first | with_reducible rfl | (simp_all; done) | (simp_all; omega) | omega))
def wAdd (x y : U128) : U128 := ⟨if u64 (x.lo + y.lo) < x.lo then u64 (u64 (x.hi + y.hi) + 1) else u64 (x.hi + y.hi), u64 (x.lo + y.lo)⟩
def wAddO (x y : U128) : Bool := if u64 (x.lo + y.lo) < x.lo then (if u64 (x.hi + y.hi) < x.hi then true else decide (u64 (u64 (x.hi + y.hi) + 1) = 0)) else decide (u64 (x.hi + y.hi) < x.hi)
set_option maxHeartbeats 4000000 in
theorem c221 {H : Heap} (a b c d : Int) : callL tab ext 221 [.agg [U a, U b], .agg [U c, U d]] H = some (.tup [.agg [U (wAdd ⟨a, b⟩ ⟨c, d⟩).hi, U (wAdd ⟨a, b⟩ ⟨c, d⟩).lo], .B (wAddO ⟨a, b⟩ ⟨c, d⟩)], H) := by
  rw [cl_221 rfl, B221]
  simp (maxSteps := 4000000) only [go_sem, ↓reduceIte, Nat.reduceMul, Int.reduceLT, Int.reduceNeg, Int.reduceEq, Int.reduceLE, Int.reduceAdd, Int.reduceSub, Nat.reduceEqDiff, Nat.reduceLeDiff, Nat.reduceLT, Nat.reduceAdd, reduceCtorEq, U128.enc, U128.encC_all, U128.enc_0, U128.enc_1, U128.enc_all, U128.enc_len, List.getElem?_map, Option.map_some, List.length_map, map_clC, map_nmC, ei64_0, eu8_0, eL_0, u64_eq]
  try simp only [wAdd, wAddO]
  all_goals ((repeat' (first | with_reducible rfl | with_reducible contradiction | split)) <;> (first | with_reducible rfl | (simp_all; done) | (simp_all; omega) | omega))
theorem w64_id {x : Int} (h : -9223372036854775808 ≤ x) (h' : x < 9223372036854775808) : w64 x = x := by
  simp [w64, IntKind.wrap, IntKind.bits, IntKind.signed]; omega
def divGo (x : U128) (d : Int) : Nat → U128 → U128 → U128 × U128
  | 0, q, r => (q, r)
  | n + 1, q, r =>
    if wCmp ⟨(wShl r 1).hi, ior .u64 (wShl r 1).lo (iand .u64 (wShr x n).lo 1)⟩ ⟨0, d⟩ < 0 then divGo x d n (wShl q 1) ⟨(wShl r 1).hi, ior .u64 (wShl r 1).lo (iand .u64 (wShr x n).lo 1)⟩
    else divGo x d n ⟨(wShl q 1).hi, ior .u64 (wShl q 1).lo 1⟩ (wSub ⟨(wShl r 1).hi, ior .u64 (wShl r 1).lo (iand .u64 (wShr x n).lo 1)⟩ ⟨0, d⟩)
set_option maxHeartbeats 4000000 in
theorem l220_0 (x : U128) (d : Int) (H : Heap) : ∀ (n : Nat) (qh ql rh rl : Int), n ≤ 128 →
    runL tab ext k220_0 ⟨upd (upd (upd (upd (upd (upd und 9 (.I ((n : Int) - 1))) 8 (.c (.ptr (pid H 3) 0))) 7 (.c (.ptr (pid H 2) 0))) 4 (.c (.ptr (pid H 1) 0))) 2 (.c (.ptr (pid H 0) 0))) 1 (.U d),
      hp H [⟨true, [U x.hi, U x.lo]⟩, ⟨true, [U 0, U 0]⟩, ⟨true, [U qh, U ql]⟩, ⟨true, [U rh, U rl]⟩]⟩ =
    some (.exit 0, ⟨upd (upd (upd und 8 (.c (.ptr (pid H 3) 0))) 7 (.c (.ptr (pid H 2) 0))) 4 (.c (.ptr (pid H 1) 0)),
      hp H [⟨true, [U x.hi, U x.lo]⟩, ⟨true, [U 0, U 0]⟩, ⟨true, [U (divGo x d n ⟨qh, ql⟩ ⟨rh, rl⟩).1.hi, U (divGo x d n ⟨qh, ql⟩ ⟨rh, rl⟩).1.lo]⟩, ⟨true, [U (divGo x d n ⟨qh, ql⟩ ⟨rh, rl⟩).2.hi, U (divGo x d n ⟨qh, ql⟩ ⟨rh, rl⟩).2.lo]⟩]⟩)
  | 0, qh, ql, rh, rl, _ => by
    have e0 : (0 ≤ (((0 : Nat) : Int) - 1)) = False := by simp
    rw [s220_0, b220_0]
    simp (maxSteps := 4000000) only [↓r220_9, ↓r220_14,  go_sem, ↓reduceIte, Nat.reduceMul, Int.reduceLT, Int.reduceNeg, Int.reduceEq, Int.reduceLE, Int.reduceAdd, Int.reduceSub, Nat.reduceEqDiff, Nat.reduceLeDiff, Nat.reduceLT, Nat.reduceAdd, reduceCtorEq, U128.enc, U128.encC_all, U128.enc_0, U128.enc_1, U128.enc_all, U128.enc_len, List.getElem?_map, Option.map_some, List.length_map, map_clC, map_nmC, ei64_0, eu8_0, eL_0, e0]
    simp only [kst, divGo]
  | n + 1, qh, ql, rh, rl, h => by
    have e : (((n + 1 : Nat) : Int) - 1) = (n : Int) := by omega
    have e1 : (0 ≤ (n : Int)) = True := by simp
    have e2 : w64 ((n : Int) - 1) = (n : Int) - 1 := w64_id (by omega) (by omega)
    have ih := fun a b c d' => l220_0 x d H n a b c d' (by omega)
    rw [e, s220_0, b220_0]
    simp (maxSteps := 4000000) only [↓r220_9, ↓r220_14,  go_sem, ↓reduceIte, Nat.reduceMul, Int.reduceLT, Int.reduceNeg, Int.reduceEq, Int.reduceLE, Int.reduceAdd, Int.reduceSub, Nat.reduceEqDiff, Nat.reduceLeDiff, Nat.reduceLT, Nat.reduceAdd, reduceCtorEq, U128.enc, U128.encC_all, U128.enc_0, U128.enc_1, U128.enc_all, U128.enc_len, List.getElem?_map, Option.map_some, List.length_map, map_clC, map_nmC, ei64_0, eu8_0, eL_0, c283, c284, c285, c286, e1, e2, ih]
    simp only [divGo]
    by_cases hc : wCmp ⟨(wShl ⟨rh, rl⟩ 1).hi, ior .u64 (wShl ⟨rh, rl⟩ 1).lo (iand .u64 (wShr x n).lo 1)⟩ ⟨0, d⟩ < 0
    · have hc' : ¬ 0 ≤ wCmp ⟨(wShl ⟨rh, rl⟩ 1).hi, ior .u64 (wShl ⟨rh, rl⟩ 1).lo (iand .u64 (wShr x n).lo 1)⟩ ⟨0, d⟩ := by omega
      simp only [if_pos hc, if_neg hc']
    · have hc' : 0 ≤ wCmp ⟨(wShl ⟨rh, rl⟩ 1).hi, ior .u64 (wShl ⟨rh, rl⟩ 1).lo (iand .u64 (wShr x n).lo 1)⟩ ⟨0, d⟩ := by omega
      simp only [if_neg hc, if_pos hc']

end
end Go.Ab
namespace Go.Ab
section
variable {ext : Callee}
def wDiv (x : U128) (d : Int) : U128 × Int × Int := if d = 0 then (⟨0, 0⟩, 0, 21) else ((divGo x d 128 ⟨0, 0⟩ ⟨0, 0⟩).1, (divGo x d 128 ⟨0, 0⟩ ⟨0, 0⟩).2.lo, 0)
set_option maxHeartbeats 4000000 in
theorem c220 (x0 x1 d : Int) (H : Heap) : callL tab ext 220 [.agg [U x0, U x1], .U d] H = some (.tup [.agg [U (wDiv ⟨x0, x1⟩ d).1.hi, U (wDiv ⟨x0, x1⟩ d).1.lo], .U (wDiv ⟨x0, x1⟩ d).2.1, .I (wDiv ⟨x0, x1⟩ d).2.2], H) := by
  have hl := l220_0 (ext := ext) ⟨x0, x1⟩ d H 128 0 0 0 0 (by omega)
  simp only [show (((128 : Nat) : Int) - 1) = 127 by rfl] at hl
  rw [cl_220 rfl, B220]
  simp (maxSteps := 4000000) only [↓r220_9, ↓r220_14,  go_sem, ↓reduceIte, Nat.reduceMul, Int.reduceLT, Int.reduceNeg, Int.reduceEq, Int.reduceLE, Int.reduceAdd, Int.reduceSub, Nat.reduceEqDiff, Nat.reduceLeDiff, Nat.reduceLT, Nat.reduceAdd, reduceCtorEq, U128.enc, U128.encC_all, U128.enc_0, U128.enc_1, U128.enc_all, U128.enc_len, List.getElem?_map, Option.map_some, List.length_map, map_clC, map_nmC, ei64_0, eu8_0, eL_0, hl]
  simp only [wDiv]
  repeat' (first | rfl | split)
def rSigned (x : U128) (b : Bool) : Int × Int :=
  if 0 < wCmp x ⟨0, if b = true then u64 (9223372036854775807 + 1) else 9223372036854775807⟩ then (0, 20)
  else if b = true then (w64 (u64 (0 - x.lo)), 0) else (w64 x.lo, 0)
set_option maxHeartbeats 4000000 in
theorem c222 {H : Heap} (x0 x1 : Int) (b : Bool) : callL tab ext 222 [.agg [U x0, U x1], .B b] H = some (.tup [.I (rSigned ⟨x0, x1⟩ b).1, .I (rSigned ⟨x0, x1⟩ b).2], H) := by
  rw [cl_222 rfl, B222]
  simp (maxSteps := 4000000) only [go_sem, ↓reduceIte, Nat.reduceMul, Int.reduceLT, Int.reduceNeg, Int.reduceEq, Int.reduceLE, Int.reduceAdd, Int.reduceSub, Nat.reduceEqDiff, Nat.reduceLeDiff, Nat.reduceLT, Nat.reduceAdd, reduceCtorEq, U128.enc, U128.encC_all, U128.enc_0, U128.enc_1, U128.enc_all, U128.enc_len, List.getElem?_map, Option.map_some, List.length_map, map_clC, map_nmC, ei64_0, eu8_0, eL_0, u64_eq, c285]
  try simp only [rSigned]
  all_goals ((repeat' (first | with_reducible rfl | with_reducible contradiction | split)) <;> (first | with_reducible rfl | (simp_all; done) | (simp_all; omega) | omega))
theorem U128.eta (x : U128) : (⟨x.hi, x.lo⟩ : U128) = x := rfl
def rBelow (a b c : Int) : Bool := !((!(decide (a < 0) == decide (b < 0))) == decide (c < 0))
def rDivide (a b c : Int) (up : Bool) : Int × Int :=
  if c = 0 then (0, 21) else
  rSigned (if (if 0 < (wDiv (wMul (numSize a) (numSize b)) (numSize c)).2.1 then !(up == rBelow a b c) else false) = true then wAdd (wDiv (wMul (numSize a) (numSize b)) (numSize c)).1 ⟨0, 1⟩ else (wDiv (wMul (numSize a) (numSize b)) (numSize c)).1) (rBelow a b c)
set_option maxHeartbeats 4000000 in
theorem c150 {H : Heap} (a b c : Int) (up : Bool) : callL tab ext 150 [.I a, .I b, .I c, .B up] H = some (.tup [.I (rDivide a b c up).1, .I (rDivide a b c up).2], H) := by
  rw [cl_150 rfl, B150]
  simp (maxSteps := 4000000) only [go_sem, ↓reduceIte, Nat.reduceMul, Int.reduceLT, Int.reduceNeg, Int.reduceEq, Int.reduceLE, Int.reduceAdd, Int.reduceSub, Nat.reduceEqDiff, Nat.reduceLeDiff, Nat.reduceLT, Nat.reduceAdd, reduceCtorEq, U128.enc, U128.encC_all, U128.enc_0, U128.enc_1, U128.enc_all, U128.enc_len, List.getElem?_map, Option.map_some, List.length_map, map_clC, map_nmC, ei64_0, eu8_0, eL_0, u64_eq, c219, c218, c220, c221, c222, U128.eta]
  simp only [← apply_ite U128.hi, ← apply_ite U128.lo, U128.eta, rDivide, rBelow]
  split <;> rfl
set_option maxHeartbeats 4000000 in
theorem c280 {H : Heap} (a b c : Int) : callL tab ext 280 [.I a, .I b, .I c] H = some (.tup [.I (rDivide a b c true).1, .I (rDivide a b c true).2], H) := by
  rw [cl_280 rfl, B280]
  simp (maxSteps := 4000000) only [go_sem, ↓reduceIte, Nat.reduceMul, Int.reduceLT, Int.reduceNeg, Int.reduceEq, Int.reduceLE, Int.reduceAdd, Int.reduceSub, Nat.reduceEqDiff, Nat.reduceLeDiff, Nat.reduceLT, Nat.reduceAdd, reduceCtorEq, List.getElem?_map, Option.map_some, List.length_map, map_clC, map_nmC, ei64_0, eu8_0, eL_0, c150]
  all_goals ((repeat' (first | with_reducible rfl | with_reducible contradiction | split)) <;> (first | with_reducible rfl | (simp_all; done) | (simp_all; omega) | omega))
set_option maxHeartbeats 4000000 in
theorem c111 {H : Heap} (a b c : Int) : callL tab ext 111 [.I a, .I b, .I c] H = some (.tup [.I (rDivide a b c false).1, .I (rDivide a b c false).2], H) := by
  rw [cl_111 rfl, B111]
  simp (maxSteps := 4000000) only [go_sem, ↓reduceIte, Nat.reduceMul, Int.reduceLT, Int.reduceNeg, Int.reduceEq, Int.reduceLE, Int.reduceAdd, Int.reduceSub, Nat.reduceEqDiff, Nat.reduceLeDiff, Nat.reduceLT, Nat.reduceAdd, reduceCtorEq, List.getElem?_map, Option.map_some, List.length_map, map_clC, map_nmC, ei64_0, eu8_0, eL_0, c150]
  all_goals ((repeat' (first | with_reducible rfl | with_reducible contradiction | split)) <;> (first | with_reducible rfl | (simp_all; done) | (simp_all; omega) | omega))
def rFloor (a b c : Int) : Int × Int := rDivide a b c false
def rCeil (a b c : Int) : Int × Int := rDivide a b c true
theorem Span.eta (x : Span) : (⟨x.lo, x.hi⟩ : Span) = x := rfl
set_option maxHeartbeats 4000000 in
theorem c223 {H : Heap} (a b : Int) : callL tab ext 223 [.c (.d (.i .u16 a)), .c (.d (.i .u16 b))] H = some (.I (w64 (IntKind.i16.wrap (IntKind.u16.wrap (b - a)))), H) := by
  rw [cl_223 rfl, B223]
  simp (maxSteps := 4000000) only [go_sem, ↓reduceIte, Nat.reduceMul, Int.reduceLT, Int.reduceNeg, Int.reduceEq, Int.reduceLE, Int.reduceAdd, Int.reduceSub, Nat.reduceEqDiff, Nat.reduceLeDiff, Nat.reduceLT, Nat.reduceAdd, reduceCtorEq, List.getElem?_map, Option.map_some, List.length_map, map_clC, map_nmC, ei64_0, eu8_0, eL_0]
  all_goals ((repeat' (first | with_reducible rfl | with_reducible contradiction | split)) <;> (first | with_reducible rfl | (simp_all; done) | (simp_all; omega) | omega))
set_option maxHeartbeats 4000000 in
theorem c226 {H : Heap} (a b c d : Int) : callL tab ext 226 [.agg [J a, J b], .agg [J c, J d]] H = some (.tup [.agg [J (spanBoth (if c > a then c else a) true (if d < b then d else b) true).1.lo, J (spanBoth (if c > a then c else a) true (if d < b then d else b) true).1.hi], .B (spanBoth (if c > a then c else a) true (if d < b then d else b) true).2], H) := by
  rw [cl_226 rfl, B226]
  simp (maxSteps := 4000000) only [go_sem, ↓reduceIte, Nat.reduceMul, Int.reduceLT, Int.reduceNeg, Int.reduceEq, Int.reduceLE, Int.reduceAdd, Int.reduceSub, Nat.reduceEqDiff, Nat.reduceLeDiff, Nat.reduceLT, Nat.reduceAdd, reduceCtorEq, Span.enc, Span.encC_all, Span.enc_0, Span.enc_1, Span.enc_all, Span.enc_len, List.getElem?_map, Option.map_some, List.length_map, map_clC, map_nmC, ei64_0, eu8_0, eL_0, c261]
  all_goals ((repeat' (first | with_reducible rfl | with_reducible contradiction | split)) <;> (first | with_reducible rfl | (simp_all; done) | (simp_all; omega) | omega))
def spanGrow (s : Span) (far : Int) : Span × Bool := if ¬ s.lo ≤ s.hi then (⟨0, 0⟩, false) else spanBoth (numSub s.lo far).1 (numSub s.lo far).2 (numAdd s.hi far).1 (numAdd s.hi far).2
set_option maxHeartbeats 4000000 in
theorem c246 {H : Heap} (a b f : Int) : callL tab ext 246 [.agg [J a, J b], .I f] H = some (.tup [.agg [J (spanGrow ⟨a, b⟩ f).1.lo, J (spanGrow ⟨a, b⟩ f).1.hi], .B (spanGrow ⟨a, b⟩ f).2], H) := by
  rw [cl_246 rfl, B246]
  simp (maxSteps := 4000000) only [go_sem, ↓reduceIte, Nat.reduceMul, Int.reduceLT, Int.reduceNeg, Int.reduceEq, Int.reduceLE, Int.reduceAdd, Int.reduceSub, Nat.reduceEqDiff, Nat.reduceLeDiff, Nat.reduceLT, Nat.reduceAdd, reduceCtorEq, Span.enc, Span.encC_all, Span.enc_0, Span.enc_1, Span.enc_all, Span.enc_len, List.getElem?_map, Option.map_some, List.length_map, map_clC, map_nmC, ei64_0, eu8_0, eL_0, c75, c291, c181, c261]
  try simp only [spanGrow]
  all_goals ((repeat' (first | with_reducible rfl | with_reducible contradiction | split)) <;> (first | with_reducible rfl | (simp_all; done) | (simp_all; omega) | omega))
set_option maxHeartbeats 4000000 in
theorem c282 {H : Heap} (x f : Int) : callL tab ext 282 [.I x, .I f] H = some (.tup [.agg [J (spanGrow ⟨x, x⟩ f).1.lo, J (spanGrow ⟨x, x⟩ f).1.hi], .B (spanGrow ⟨x, x⟩ f).2], H) := by
  rw [cl_282 rfl, B282]
  simp (maxSteps := 4000000) only [go_sem, ↓reduceIte, Nat.reduceMul, Int.reduceLT, Int.reduceNeg, Int.reduceEq, Int.reduceLE, Int.reduceAdd, Int.reduceSub, Nat.reduceEqDiff, Nat.reduceLeDiff, Nat.reduceLT, Nat.reduceAdd, reduceCtorEq, Span.enc, Span.encC_all, Span.enc_0, Span.enc_1, Span.enc_all, Span.enc_len, List.getElem?_map, Option.map_some, List.length_map, map_clC, map_nmC, ei64_0, eu8_0, eL_0, c168, c246]
  all_goals ((repeat' (first | with_reducible rfl | with_reducible contradiction | split)) <;> (first | with_reducible rfl | (simp_all; done) | (simp_all; omega) | omega))
set_option maxHeartbeats 4000000 in
theorem c110 {H : Heap} (c : Config) : callL tab ext 110 [.agg ((Config.enc c).map .d)] H = some (.agg [J c.circLo, J c.circHi], H) := by
  rw [cl_110 rfl, B110]
  simp (maxSteps := 4000000) only [go_sem, ↓reduceIte, Nat.reduceMul, Int.reduceLT, Int.reduceNeg, Int.reduceEq, Int.reduceLE, Int.reduceAdd, Int.reduceSub, Nat.reduceEqDiff, Nat.reduceLeDiff, Nat.reduceLT, Nat.reduceAdd, reduceCtorEq, Config.encC_all, Config.enc_0, Config.enc_1, Config.enc_10, Config.enc_11, Config.enc_12, Config.enc_13, Config.enc_2, Config.enc_3, Config.enc_4, Config.enc_5, Config.enc_6, Config.enc_7, Config.enc_8, Config.enc_9, Config.enc_all, Config.enc_len, List.getElem?_map, Option.map_some, List.length_map, map_clC, map_nmC, ei64_0, eu8_0, eL_0]
  all_goals ((repeat' (first | with_reducible rfl | with_reducible contradiction | split)) <;> (first | with_reducible rfl | (simp_all; done) | (simp_all; omega) | omega))
set_option maxHeartbeats 4000000 in
theorem c96 {H : Heap} (c : Config) (a b o g h : Int) : callL tab ext 96 [.agg ((Config.enc c).map .d), .agg [J a, J b, J o, J g, J h]] H = some (.I (w64 (w64 (g + c.antenna) + c.maxSpeed)), H) := by
  rw [cl_96 rfl, B96]
  simp (maxSteps := 4000000) only [go_sem, ↓reduceIte, Nat.reduceMul, Int.reduceLT, Int.reduceNeg, Int.reduceEq, Int.reduceLE, Int.reduceAdd, Int.reduceSub, Nat.reduceEqDiff, Nat.reduceLeDiff, Nat.reduceLT, Nat.reduceAdd, reduceCtorEq, Config.encC_all, Config.enc_0, Config.enc_1, Config.enc_10, Config.enc_11, Config.enc_12, Config.enc_13, Config.enc_2, Config.enc_3, Config.enc_4, Config.enc_5, Config.enc_6, Config.enc_7, Config.enc_8, Config.enc_9, Config.enc_all, Config.enc_len, Group.enc, Group.encC_all, Group.enc_0, Group.enc_1, Group.enc_2, Group.enc_3, Group.enc_4, Group.enc_all, Group.enc_len, List.getElem?_map, Option.map_some, List.length_map, map_clC, map_nmC, ei64_0, eu8_0, eL_0]
  all_goals ((repeat' (first | with_reducible rfl | with_reducible contradiction | split)) <;> (first | with_reducible rfl | (simp_all; done) | (simp_all; omega) | omega))
def within (x f : Int) : Bool := decide (w64 (0 - f) ≤ x) && decide (x ≤ f)
def inR (x a b : Int) : Bool := decide (a ≤ x) && decide (x ≤ b)
set_option maxHeartbeats 4000000 in
theorem c200 {H : Heap} (x a b : Int) : callL tab ext 200 [.I x, .I a, .I b] H = some (.B (inR x a b), H) := by
  rw [cl_200 rfl, B200]
  simp (maxSteps := 4000000) only [go_sem, ↓reduceIte, Nat.reduceMul, Int.reduceLT, Int.reduceNeg, Int.reduceEq, Int.reduceLE, Int.reduceAdd, Int.reduceSub, Nat.reduceEqDiff, Nat.reduceLeDiff, Nat.reduceLT, Nat.reduceAdd, reduceCtorEq, List.getElem?_map, Option.map_some, List.length_map, map_clC, map_nmC, ei64_0, eu8_0, eL_0]
  try simp only [inR]
  all_goals ((repeat' (first | with_reducible rfl | with_reducible contradiction | split)) <;> (first | with_reducible rfl | (simp_all; done) | (simp_all; omega) | omega))

end
end Go.Ab
namespace Go.Ab
section
variable {ext : Callee}
def cfgErr (c : Config) (r : Int) : Int := w64 (c.radBase + (rFloor (if r < w64 (0 - r) then w64 (0 - r) else r) c.radPart 1048576).1)
set_option maxHeartbeats 4000000 in
theorem c225 {H : Heap} (c : Config) (r : Int) : callL tab ext 225 [.agg ((Config.enc c).map .d), .I r] H = some (.I (cfgErr c r), H) := by
  rw [cl_225 rfl, B225]
  simp (maxSteps := 4000000) only [go_sem, ↓reduceIte, Nat.reduceMul, Int.reduceLT, Int.reduceNeg, Int.reduceEq, Int.reduceLE, Int.reduceAdd, Int.reduceSub, Nat.reduceEqDiff, Nat.reduceLeDiff, Nat.reduceLT, Nat.reduceAdd, reduceCtorEq, Config.encC_all, Config.enc_0, Config.enc_1, Config.enc_10, Config.enc_11, Config.enc_12, Config.enc_13, Config.enc_2, Config.enc_3, Config.enc_4, Config.enc_5, Config.enc_6, Config.enc_7, Config.enc_8, Config.enc_9, Config.enc_all, Config.enc_len, List.getElem?_map, Option.map_some, List.length_map, map_clC, map_nmC, ei64_0, eu8_0, eL_0, c111]
  try simp only [cfgErr, rFloor]
  all_goals ((repeat' (first | with_reducible rfl | with_reducible contradiction | split)) <;> (first | with_reducible rfl | (simp_all; done) | (simp_all; omega) | omega))
set_option maxHeartbeats 4000000 in
theorem c215 {H : Heap} (c : Config) (r : Int) : callL tab ext 215 [.agg ((Config.enc c).map .d), .I r] H = some (.agg [J (spanGrow ⟨r, r⟩ (cfgErr c r)).1.lo, J (spanGrow ⟨r, r⟩ (cfgErr c r)).1.hi], H) := by
  rw [cl_215 rfl, B215]
  simp (maxSteps := 4000000) only [go_sem, ↓reduceIte, Nat.reduceMul, Int.reduceLT, Int.reduceNeg, Int.reduceEq, Int.reduceLE, Int.reduceAdd, Int.reduceSub, Nat.reduceEqDiff, Nat.reduceLeDiff, Nat.reduceLT, Nat.reduceAdd, reduceCtorEq, Config.encC_all, Config.enc_0, Config.enc_1, Config.enc_10, Config.enc_11, Config.enc_12, Config.enc_13, Config.enc_2, Config.enc_3, Config.enc_4, Config.enc_5, Config.enc_6, Config.enc_7, Config.enc_8, Config.enc_9, Config.enc_all, Config.enc_len, Span.enc, Span.encC_all, Span.enc_0, Span.enc_1, Span.enc_all, Span.enc_len, List.getElem?_map, Option.map_some, List.length_map, map_clC, map_nmC, ei64_0, eu8_0, eL_0, c225, c282]
  all_goals ((repeat' (first | with_reducible rfl | with_reducible contradiction | split)) <;> (first | with_reducible rfl | (simp_all; done) | (simp_all; omega) | omega))
def spanTimes (s : Span) (k b : Int) : Span × Int :=
  if ¬ s.lo ≤ s.hi ∨ b < 1 then (⟨0, 0⟩, 10) else
  if (rFloor k (if k < 0 then s.hi else s.lo) b).2 ≠ 0 then (⟨0, 0⟩, (rFloor k (if k < 0 then s.hi else s.lo) b).2) else
  if (rCeil k (if k < 0 then s.lo else s.hi) b).2 ≠ 0 then (⟨0, 0⟩, (rCeil k (if k < 0 then s.lo else s.hi) b).2) else
  (⟨(rFloor k (if k < 0 then s.hi else s.lo) b).1, (rCeil k (if k < 0 then s.lo else s.hi) b).1⟩, 0)
set_option maxHeartbeats 4000000 in
theorem c287 {H : Heap} (a b k by' : Int) : callL tab ext 287 [.agg [J a, J b], .I k, .I by'] H = some (.tup [.agg [J (spanTimes ⟨a, b⟩ k by').1.lo, J (spanTimes ⟨a, b⟩ k by').1.hi], .I (spanTimes ⟨a, b⟩ k by').2], H) := by
  rw [cl_287 rfl, B287]
  simp (maxSteps := 4000000) only [↓r287_3, go_sem, ↓reduceIte, Nat.reduceMul, Int.reduceLT, Int.reduceNeg, Int.reduceEq, Int.reduceLE, Int.reduceAdd, Int.reduceSub, Nat.reduceEqDiff, Nat.reduceLeDiff, Nat.reduceLT, Nat.reduceAdd, reduceCtorEq, Span.enc, Span.encC_all, Span.enc_0, Span.enc_1, Span.enc_all, Span.enc_len, List.getElem?_map, Option.map_some, List.length_map, map_clC, map_nmC, ei64_0, eu8_0, eL_0, c75, c111, c280]
  try simp only [spanTimes, rFloor, rCeil]
  all_goals ((repeat' (first | with_reducible rfl | with_reducible contradiction | split)) <;> (first | with_reducible rfl | (simp_all; done) | (simp_all; omega) | omega))
def tacho (d : Int) (s : Span) (p : Int) : Span × Int :=
  if d < -32768 ∨ 32767 < d then (⟨0, 0⟩, 10) else
  if (spanTimes s (w64 (d - 1)) p).2 ≠ 0 then (⟨0, 0⟩, (spanTimes s (w64 (d - 1)) p).2) else
  if (spanTimes s (w64 (d + 1)) p).2 ≠ 0 then (⟨0, 0⟩, (spanTimes s (w64 (d + 1)) p).2) else
  (spanHull (spanTimes s (w64 (d - 1)) p).1 (spanTimes s (w64 (d + 1)) p).1, 0)
set_option maxHeartbeats 4000000 in
theorem c224 {H : Heap} (d a b p : Int) : callL tab ext 224 [.I d, .agg [J a, J b], .I p] H = some (.tup [.agg [J (tacho d ⟨a, b⟩ p).1.lo, J (tacho d ⟨a, b⟩ p).1.hi], .I (tacho d ⟨a, b⟩ p).2], H) := by
  rw [cl_224 rfl, B224]
  simp (maxSteps := 4000000) only [go_sem, ↓reduceIte, Nat.reduceMul, Int.reduceLT, Int.reduceNeg, Int.reduceEq, Int.reduceLE, Int.reduceAdd, Int.reduceSub, Nat.reduceEqDiff, Nat.reduceLeDiff, Nat.reduceLT, Nat.reduceAdd, reduceCtorEq, Span.enc, Span.encC_all, Span.enc_0, Span.enc_1, Span.enc_all, Span.enc_len, List.getElem?_map, Option.map_some, List.length_map, map_clC, map_nmC, ei64_0, eu8_0, eL_0, c287, c170, Span.eta]
  try simp only [tacho]
  all_goals ((repeat' (first | with_reducible rfl | with_reducible contradiction | split)) <;> (first | with_reducible rfl | (simp_all; done) | (simp_all; omega) | omega))
set_option maxHeartbeats 4000000 in
theorem c210 {H : Heap} (c : Config) : callL tab ext 210 [.agg ((Config.enc c).map .d)] H = some (.I (rCeil c.circHi 1 c.pulses).1, H) := by
  rw [cl_210 rfl, B210]
  simp (maxSteps := 4000000) only [go_sem, ↓reduceIte, Nat.reduceMul, Int.reduceLT, Int.reduceNeg, Int.reduceEq, Int.reduceLE, Int.reduceAdd, Int.reduceSub, Nat.reduceEqDiff, Nat.reduceLeDiff, Nat.reduceLT, Nat.reduceAdd, reduceCtorEq, Config.encC_all, Config.enc_0, Config.enc_1, Config.enc_10, Config.enc_11, Config.enc_12, Config.enc_13, Config.enc_2, Config.enc_3, Config.enc_4, Config.enc_5, Config.enc_6, Config.enc_7, Config.enc_8, Config.enc_9, Config.enc_all, Config.enc_len, List.getElem?_map, Option.map_some, List.length_map, map_clC, map_nmC, ei64_0, eu8_0, eL_0, c280, rCeil]
  all_goals ((repeat' (first | with_reducible rfl | with_reducible contradiction | split)) <;> (first | with_reducible rfl | (simp_all; done) | (simp_all; omega) | omega))

end
end Go.Ab
namespace Go.Ab
section
variable {ext : Callee}
set_option maxHeartbeats 4000000 in
theorem c199 {H : Heap} {i : Nat} (c : Config) (hH : H[i]? = some ⟨true, (Config.enc c).map .d⟩) : callL tab ext 199 [.c (.ptr i 0)] H = some (.B (inR c.pulses 1 1024), H) := by
  rw [cl_199 rfl, B199]
  simp (maxSteps := 4000000) only [go_sem, ↓reduceIte, Nat.reduceMul, Int.reduceLT, Int.reduceNeg, Int.reduceEq, Int.reduceLE, Int.reduceAdd, Int.reduceSub, Nat.reduceEqDiff, Nat.reduceLeDiff, Nat.reduceLT, Nat.reduceAdd, reduceCtorEq, Config.encC_all, Config.enc_0, Config.enc_1, Config.enc_10, Config.enc_11, Config.enc_12, Config.enc_13, Config.enc_2, Config.enc_3, Config.enc_4, Config.enc_5, Config.enc_6, Config.enc_7, Config.enc_8, Config.enc_9, Config.enc_all, Config.enc_len, List.getElem?_map, Option.map_some, List.length_map, map_clC, map_nmC, ei64_0, eu8_0, eL_0, c200, hp_old hH]
  all_goals ((repeat' (first | with_reducible rfl | with_reducible contradiction | split)) <;> (first | with_reducible rfl | (simp_all; done) | (simp_all; omega) | omega))
set_option maxHeartbeats 4000000 in
theorem c201 {H : Heap} {i : Nat} (c : Config) (hH : H[i]? = some ⟨true, (Config.enc c).map .d⟩) : callL tab ext 201 [.c (.ptr i 0)] H = some (.B (inR c.circLo 131072 8388608 && inR c.circHi c.circLo 8388608), H) := by
  rw [cl_201 rfl, B201]
  simp (maxSteps := 4000000) only [go_sem, ↓reduceIte, Nat.reduceMul, Int.reduceLT, Int.reduceNeg, Int.reduceEq, Int.reduceLE, Int.reduceAdd, Int.reduceSub, Nat.reduceEqDiff, Nat.reduceLeDiff, Nat.reduceLT, Nat.reduceAdd, reduceCtorEq, Config.encC_all, Config.enc_0, Config.enc_1, Config.enc_10, Config.enc_11, Config.enc_12, Config.enc_13, Config.enc_2, Config.enc_3, Config.enc_4, Config.enc_5, Config.enc_6, Config.enc_7, Config.enc_8, Config.enc_9, Config.enc_all, Config.enc_len, List.getElem?_map, Option.map_some, List.length_map, map_clC, map_nmC, ei64_0, eu8_0, eL_0, c200, hp_old hH]
  all_goals ((repeat' (first | with_reducible rfl | with_reducible contradiction | split)) <;> (first | with_reducible rfl | (simp_all; done) | (simp_all; omega) | omega))
set_option maxHeartbeats 4000000 in
theorem c202 {H : Heap} {i : Nat} (c : Config) (hH : H[i]? = some ⟨true, (Config.enc c).map .d⟩) : callL tab ext 202 [.c (.ptr i 0)] H = some (.B (decide (w64 (16 * w64 (c.circHi - c.circLo)) ≤ c.circLo)), H) := by
  rw [cl_202 rfl, B202]
  simp (maxSteps := 4000000) only [go_sem, ↓reduceIte, Nat.reduceMul, Int.reduceLT, Int.reduceNeg, Int.reduceEq, Int.reduceLE, Int.reduceAdd, Int.reduceSub, Nat.reduceEqDiff, Nat.reduceLeDiff, Nat.reduceLT, Nat.reduceAdd, reduceCtorEq, Config.encC_all, Config.enc_0, Config.enc_1, Config.enc_10, Config.enc_11, Config.enc_12, Config.enc_13, Config.enc_2, Config.enc_3, Config.enc_4, Config.enc_5, Config.enc_6, Config.enc_7, Config.enc_8, Config.enc_9, Config.enc_all, Config.enc_len, List.getElem?_map, Option.map_some, List.length_map, map_clC, map_nmC, ei64_0, eu8_0, eL_0, c200, hp_old hH]
  all_goals ((repeat' (first | with_reducible rfl | with_reducible contradiction | split)) <;> (first | with_reducible rfl | (simp_all; done) | (simp_all; omega) | omega))
set_option maxHeartbeats 4000000 in
theorem c203 {H : Heap} {i : Nat} (c : Config) (hH : H[i]? = some ⟨true, (Config.enc c).map .d⟩) : callL tab ext 203 [.c (.ptr i 0)] H = some (.B (inR c.radBase 0 1048576 && inR c.radPart 0 65536), H) := by
  rw [cl_203 rfl, B203]
  simp (maxSteps := 4000000) only [go_sem, ↓reduceIte, Nat.reduceMul, Int.reduceLT, Int.reduceNeg, Int.reduceEq, Int.reduceLE, Int.reduceAdd, Int.reduceSub, Nat.reduceEqDiff, Nat.reduceLeDiff, Nat.reduceLT, Nat.reduceAdd, reduceCtorEq, Config.encC_all, Config.enc_0, Config.enc_1, Config.enc_10, Config.enc_11, Config.enc_12, Config.enc_13, Config.enc_2, Config.enc_3, Config.enc_4, Config.enc_5, Config.enc_6, Config.enc_7, Config.enc_8, Config.enc_9, Config.enc_all, Config.enc_len, List.getElem?_map, Option.map_some, List.length_map, map_clC, map_nmC, ei64_0, eu8_0, eL_0, c200, hp_old hH]
  all_goals ((repeat' (first | with_reducible rfl | with_reducible contradiction | split)) <;> (first | with_reducible rfl | (simp_all; done) | (simp_all; omega) | omega))
set_option maxHeartbeats 4000000 in
theorem c204 {H : Heap} {i : Nat} (c : Config) (hH : H[i]? = some ⟨true, (Config.enc c).map .d⟩) : callL tab ext 204 [.c (.ptr i 0)] H = some (.B (inR c.accErr 0 1048576), H) := by
  rw [cl_204 rfl, B204]
  simp (maxSteps := 4000000) only [go_sem, ↓reduceIte, Nat.reduceMul, Int.reduceLT, Int.reduceNeg, Int.reduceEq, Int.reduceLE, Int.reduceAdd, Int.reduceSub, Nat.reduceEqDiff, Nat.reduceLeDiff, Nat.reduceLT, Nat.reduceAdd, reduceCtorEq, Config.encC_all, Config.enc_0, Config.enc_1, Config.enc_10, Config.enc_11, Config.enc_12, Config.enc_13, Config.enc_2, Config.enc_3, Config.enc_4, Config.enc_5, Config.enc_6, Config.enc_7, Config.enc_8, Config.enc_9, Config.enc_all, Config.enc_len, List.getElem?_map, Option.map_some, List.length_map, map_clC, map_nmC, ei64_0, eu8_0, eL_0, c200, hp_old hH]
  all_goals ((repeat' (first | with_reducible rfl | with_reducible contradiction | split)) <;> (first | with_reducible rfl | (simp_all; done) | (simp_all; omega) | omega))
set_option maxHeartbeats 4000000 in
theorem c205 {H : Heap} {i : Nat} (c : Config) (hH : H[i]? = some ⟨true, (Config.enc c).map .d⟩) : callL tab ext 205 [.c (.ptr i 0)] H = some (.B (inR c.maxSpeed 1 16777216 && inR c.maxAccel 1 1048576), H) := by
  rw [cl_205 rfl, B205]
  simp (maxSteps := 4000000) only [go_sem, ↓reduceIte, Nat.reduceMul, Int.reduceLT, Int.reduceNeg, Int.reduceEq, Int.reduceLE, Int.reduceAdd, Int.reduceSub, Nat.reduceEqDiff, Nat.reduceLeDiff, Nat.reduceLT, Nat.reduceAdd, reduceCtorEq, Config.encC_all, Config.enc_0, Config.enc_1, Config.enc_10, Config.enc_11, Config.enc_12, Config.enc_13, Config.enc_2, Config.enc_3, Config.enc_4, Config.enc_5, Config.enc_6, Config.enc_7, Config.enc_8, Config.enc_9, Config.enc_all, Config.enc_len, List.getElem?_map, Option.map_some, List.length_map, map_clC, map_nmC, ei64_0, eu8_0, eL_0, c200, hp_old hH]
  all_goals ((repeat' (first | with_reducible rfl | with_reducible contradiction | split)) <;> (first | with_reducible rfl | (simp_all; done) | (simp_all; omega) | omega))
set_option maxHeartbeats 4000000 in
theorem c206 {H : Heap} {i : Nat} (c : Config) (hH : H[i]? = some ⟨true, (Config.enc c).map .d⟩) : callL tab ext 206 [.c (.ptr i 0)] H = some (.B (decide (w64 (c.maxSpeed * c.pulses) ≤ w64 (32000 * c.circLo))), H) := by
  rw [cl_206 rfl, B206]
  simp (maxSteps := 4000000) only [go_sem, ↓reduceIte, Nat.reduceMul, Int.reduceLT, Int.reduceNeg, Int.reduceEq, Int.reduceLE, Int.reduceAdd, Int.reduceSub, Nat.reduceEqDiff, Nat.reduceLeDiff, Nat.reduceLT, Nat.reduceAdd, reduceCtorEq, Config.encC_all, Config.enc_0, Config.enc_1, Config.enc_10, Config.enc_11, Config.enc_12, Config.enc_13, Config.enc_2, Config.enc_3, Config.enc_4, Config.enc_5, Config.enc_6, Config.enc_7, Config.enc_8, Config.enc_9, Config.enc_all, Config.enc_len, List.getElem?_map, Option.map_some, List.length_map, map_clC, map_nmC, ei64_0, eu8_0, eL_0, c200, hp_old hH]
  all_goals ((repeat' (first | with_reducible rfl | with_reducible contradiction | split)) <;> (first | with_reducible rfl | (simp_all; done) | (simp_all; omega) | omega))
set_option maxHeartbeats 4000000 in
theorem c207 {H : Heap} {i : Nat} (c : Config) (hH : H[i]? = some ⟨true, (Config.enc c).map .d⟩) : callL tab ext 207 [.c (.ptr i 0)] H = some (.B (inR c.antenna 0 1048576), H) := by
  rw [cl_207 rfl, B207]
  simp (maxSteps := 4000000) only [go_sem, ↓reduceIte, Nat.reduceMul, Int.reduceLT, Int.reduceNeg, Int.reduceEq, Int.reduceLE, Int.reduceAdd, Int.reduceSub, Nat.reduceEqDiff, Nat.reduceLeDiff, Nat.reduceLT, Nat.reduceAdd, reduceCtorEq, Config.encC_all, Config.enc_0, Config.enc_1, Config.enc_10, Config.enc_11, Config.enc_12, Config.enc_13, Config.enc_2, Config.enc_3, Config.enc_4, Config.enc_5, Config.enc_6, Config.enc_7, Config.enc_8, Config.enc_9, Config.enc_all, Config.enc_len, List.getElem?_map, Option.map_some, List.length_map, map_clC, map_nmC, ei64_0, eu8_0, eL_0, c200, hp_old hH]
  all_goals ((repeat' (first | with_reducible rfl | with_reducible contradiction | split)) <;> (first | with_reducible rfl | (simp_all; done) | (simp_all; omega) | omega))
set_option maxHeartbeats 4000000 in
theorem c208 {H : Heap} {i : Nat} (c : Config) (hH : H[i]? = some ⟨true, (Config.enc c).map .d⟩) : callL tab ext 208 [.c (.ptr i 0)] H = some (.B (inR c.still 1 1000 && inR c.timeout 1 1000), H) := by
  rw [cl_208 rfl, B208]
  simp (maxSteps := 4000000) only [go_sem, ↓reduceIte, Nat.reduceMul, Int.reduceLT, Int.reduceNeg, Int.reduceEq, Int.reduceLE, Int.reduceAdd, Int.reduceSub, Nat.reduceEqDiff, Nat.reduceLeDiff, Nat.reduceLT, Nat.reduceAdd, reduceCtorEq, Config.encC_all, Config.enc_0, Config.enc_1, Config.enc_10, Config.enc_11, Config.enc_12, Config.enc_13, Config.enc_2, Config.enc_3, Config.enc_4, Config.enc_5, Config.enc_6, Config.enc_7, Config.enc_8, Config.enc_9, Config.enc_all, Config.enc_len, List.getElem?_map, Option.map_some, List.length_map, map_clC, map_nmC, ei64_0, eu8_0, eL_0, c200, hp_old hH]
  all_goals ((repeat' (first | with_reducible rfl | with_reducible contradiction | split)) <;> (first | with_reducible rfl | (simp_all; done) | (simp_all; omega) | omega))
set_option maxHeartbeats 4000000 in
theorem c209 {H : Heap} {i : Nat} (c : Config) (hH : H[i]? = some ⟨true, (Config.enc c).map .d⟩) : callL tab ext 209 [.c (.ptr i 0)] H = some (.B (inR c.stillSpeed (if w64 (3 * c.radBase) > (rCeil c.circHi 1 c.pulses).1 then w64 (3 * c.radBase) else (rCeil c.circHi 1 c.pulses).1) 16777216), H) := by
  rw [cl_209 rfl, B209]
  simp (maxSteps := 4000000) only [↓r209_1, go_sem, ↓reduceIte, Nat.reduceMul, Int.reduceLT, Int.reduceNeg, Int.reduceEq, Int.reduceLE, Int.reduceAdd, Int.reduceSub, Nat.reduceEqDiff, Nat.reduceLeDiff, Nat.reduceLT, Nat.reduceAdd, reduceCtorEq, Config.encC_all, Config.enc_0, Config.enc_1, Config.enc_10, Config.enc_11, Config.enc_12, Config.enc_13, Config.enc_2, Config.enc_3, Config.enc_4, Config.enc_5, Config.enc_6, Config.enc_7, Config.enc_8, Config.enc_9, Config.enc_all, Config.enc_len, List.getElem?_map, Option.map_some, List.length_map, map_clC, map_nmC, ei64_0, eu8_0, eL_0, c200, c210, hp_old hH]
  all_goals ((repeat' (first | with_reducible rfl | with_reducible contradiction | split)) <;> (first | with_reducible rfl | (simp_all; done) | (simp_all; omega) | omega))
set_option maxHeartbeats 4000000 in
theorem c211 {H : Heap} {i : Nat} (c : Config) (hH : H[i]? = some ⟨true, (Config.enc c).map .d⟩) : callL tab ext 211 [.c (.ptr i 0)] H = some (.B (inR c.roll 0 1073741824), H) := by
  rw [cl_211 rfl, B211]
  simp (maxSteps := 4000000) only [go_sem, ↓reduceIte, Nat.reduceMul, Int.reduceLT, Int.reduceNeg, Int.reduceEq, Int.reduceLE, Int.reduceAdd, Int.reduceSub, Nat.reduceEqDiff, Nat.reduceLeDiff, Nat.reduceLT, Nat.reduceAdd, reduceCtorEq, Config.encC_all, Config.enc_0, Config.enc_1, Config.enc_10, Config.enc_11, Config.enc_12, Config.enc_13, Config.enc_2, Config.enc_3, Config.enc_4, Config.enc_5, Config.enc_6, Config.enc_7, Config.enc_8, Config.enc_9, Config.enc_all, Config.enc_len, List.getElem?_map, Option.map_some, List.length_map, map_clC, map_nmC, ei64_0, eu8_0, eL_0, c200, hp_old hH]
  all_goals ((repeat' (first | with_reducible rfl | with_reducible contradiction | split)) <;> (first | with_reducible rfl | (simp_all; done) | (simp_all; omega) | omega))
set_option maxHeartbeats 4000000 in
theorem c212 {H : Heap} {i : Nat} (c : Config) (hH : H[i]? = some ⟨true, (Config.enc c).map .d⟩) : callL tab ext 212 [.c (.ptr i 0)] H = some (.B (inR c.brake 1 1048576), H) := by
  rw [cl_212 rfl, B212]
  simp (maxSteps := 4000000) only [go_sem, ↓reduceIte, Nat.reduceMul, Int.reduceLT, Int.reduceNeg, Int.reduceEq, Int.reduceLE, Int.reduceAdd, Int.reduceSub, Nat.reduceEqDiff, Nat.reduceLeDiff, Nat.reduceLT, Nat.reduceAdd, reduceCtorEq, Config.encC_all, Config.enc_0, Config.enc_1, Config.enc_10, Config.enc_11, Config.enc_12, Config.enc_13, Config.enc_2, Config.enc_3, Config.enc_4, Config.enc_5, Config.enc_6, Config.enc_7, Config.enc_8, Config.enc_9, Config.enc_all, Config.enc_len, List.getElem?_map, Option.map_some, List.length_map, map_clC, map_nmC, ei64_0, eu8_0, eL_0, c200, hp_old hH]
  all_goals ((repeat' (first | with_reducible rfl | with_reducible contradiction | split)) <;> (first | with_reducible rfl | (simp_all; done) | (simp_all; omega) | omega))
theorem tup2_ite {p : Prop} [Decidable p] {x y : Int × Int} {H : Heap} : (some (V.tup [V.I (if p then x else y).1, V.I (if p then x else y).2], H) : Option (V × Heap)) = if p then some (V.tup [V.I x.1, V.I x.2], H) else some (V.tup [V.I y.1, V.I y.2], H) := by split <;> rfl
abbrev cfgFns (i : Nat) : List C := [.fn 199 [] [(i, 0)], .fn 201 [] [(i, 0)], .fn 202 [] [(i, 0)], .fn 203 [] [(i, 0)], .fn 204 [] [(i, 0)], .fn 205 [] [(i, 0)], .fn 206 [] [(i, 0)], .fn 207 [] [(i, 0)], .fn 208 [] [(i, 0)], .fn 209 [] [(i, 0)], .fn 211 [] [(i, 0)], .fn 212 [] [(i, 0)]]
set_option maxHeartbeats 4000000 in
theorem c140 {H : Heap} (c : Config) : callL tab ext 140 [.agg ((Config.enc c).map .d)] H = some (.c (.view (pid H 1) 0 12 1), hp H [⟨true, (Config.enc c).map .d⟩, ⟨true, cfgFns (pid H 0)⟩]) := by
  rw [cl_140 rfl, B140]
  simp (maxSteps := 4000000) only [go_sem, ↓reduceIte, Nat.reduceMul, Int.reduceLT, Int.reduceNeg, Int.reduceEq, Int.reduceLE, Int.reduceAdd, Int.reduceSub, Nat.reduceEqDiff, Nat.reduceLeDiff, Nat.reduceLT, Nat.reduceAdd, reduceCtorEq, Config.encC_all, Config.enc_0, Config.enc_1, Config.enc_10, Config.enc_11, Config.enc_12, Config.enc_13, Config.enc_2, Config.enc_3, Config.enc_4, Config.enc_5, Config.enc_6, Config.enc_7, Config.enc_8, Config.enc_9, Config.enc_all, Config.enc_len, List.getElem?_map, Option.map_some, List.length_map, map_clC, map_nmC, ei64_0, eu8_0, eL_0]
def cfgCheck (c : Config) : Int × Int :=
  if inR c.pulses 1 1024 = false then (50, 1) else
  if (inR c.circLo 131072 8388608 && inR c.circHi c.circLo 8388608) = false then (50, 2) else
  if ¬ w64 (16 * w64 (c.circHi - c.circLo)) ≤ c.circLo then (50, 3) else
  if (inR c.radBase 0 1048576 && inR c.radPart 0 65536) = false then (50, 4) else
  if inR c.accErr 0 1048576 = false then (50, 5) else
  if (inR c.maxSpeed 1 16777216 && inR c.maxAccel 1 1048576) = false then (50, 6) else
  if ¬ w64 (c.maxSpeed * c.pulses) ≤ w64 (32000 * c.circLo) then (50, 7) else
  if inR c.antenna 0 1048576 = false then (50, 8) else
  if (inR c.still 1 1000 && inR c.timeout 1 1000) = false then (50, 9) else
  if inR c.stillSpeed (if w64 (3 * c.radBase) > (rCeil c.circHi 1 c.pulses).1 then w64 (3 * c.radBase) else (rCeil c.circHi 1 c.pulses).1) 16777216 = false then (50, 10) else
  if inR c.roll 0 1073741824 = false then (50, 11) else
  if inR c.brake 1 1048576 = false then (50, 12) else (0, 0)
set_option maxHeartbeats 8000000 in
theorem c94 {H : Heap} (c : Config) : callL tab ext 94 [.agg ((Config.enc c).map .d)] H = some (.tup [.I (cfgCheck c).1, .I (cfgCheck c).2], H) := by
  have hh : ∀ (a b : Box), (hp H [a, ⟨true, (Config.enc c).map .d⟩, b])[pid H 1]? = some ⟨true, (Config.enc c).map .d⟩ := fun a b => by simp only [hp_get]; rfl
  have h1 := fun a b => c199 (ext := ext) c (hh a b)
  have h2 := fun a b => c201 (ext := ext) c (hh a b)
  have h3 := fun a b => c202 (ext := ext) c (hh a b)
  have h4 := fun a b => c203 (ext := ext) c (hh a b)
  have h5 := fun a b => c204 (ext := ext) c (hh a b)
  have h6 := fun a b => c205 (ext := ext) c (hh a b)
  have h7 := fun a b => c206 (ext := ext) c (hh a b)
  have h8 := fun a b => c207 (ext := ext) c (hh a b)
  have h9 := fun a b => c208 (ext := ext) c (hh a b)
  have h10 := fun a b => c209 (ext := ext) c (hh a b)
  have h11 := fun a b => c211 (ext := ext) c (hh a b)
  have h12 := fun a b => c212 (ext := ext) c (hh a b)
  rw [cl_94 rfl, B94]
  simp only [↓s94_0, b94_0, go_sem, ↓reduceIte, Nat.reduceMul, Int.reduceLT, Int.reduceNeg, Int.reduceEq, Int.reduceLE, Int.reduceAdd, Int.reduceSub, Nat.reduceEqDiff, Nat.reduceLeDiff, Nat.reduceLT, Nat.reduceAdd, reduceCtorEq, Config.encC_all, Config.enc_0, Config.enc_1, Config.enc_10, Config.enc_11, Config.enc_12, Config.enc_13, Config.enc_2, Config.enc_3, Config.enc_4, Config.enc_5, Config.enc_6, Config.enc_7, Config.enc_8, Config.enc_9, Config.enc_all, Config.enc_len, List.getElem?_map, Option.map_some, List.length_map, map_clC, map_nmC, ei64_0, eu8_0, eL_0, c140, h1, h2, h3, h4, h5, h6, h7, h8, h9, h10, h11, h12]
  simp only [cfgCheck, tup2_ite, ite_not]

end
end Go.Ab
namespace Go.Ab
section
variable {ext : Callee}
theorem dr_end {α : Type} {l : List α} {i : Nat} (h : l.drop i = []) : ((i : Int) < (l.length : Nat)) = False := by
  have := List.drop_eq_nil_iff.1 h
  simp; omega
theorem dr_cons {α : Type} {l r : List α} {i : Nat} {k : α} (h : l.drop i = k :: r) : l[i]? = some k ∧ i < l.length ∧ l.drop (i + 1) = r := by
  have hlt : i < l.length := by
    apply Classical.byContradiction; intro hh
    rw [List.drop_eq_nil_iff.2 (by omega)] at h; cases h
  rw [List.drop_eq_getElem_cons hlt] at h
  cases h
  exact ⟨List.getElem?_eq_getElem hlt, hlt, rfl⟩
theorem dr_lt {n i : Nat} (h : i < n) : ((i : Int) < (n : Nat)) = True := by simp; exact h
theorem w64_inc {n i : Nat} (h : i < n) (hn : n < 2 ^ 63) : w64 ((i : Int) + 1) = ((i + 1 : Nat) : Int) := by
  rw [w64_id (by omega) (by omega)]; omega
theorem w64_dec {n j : Nat} (h : j + 1 < n) (hn : n < 2 ^ 63) : w64 (((j + 1 : Nat) : Int) - 1) = (j : Int) := by
  rw [w64_id (by omega) (by omega)]; omega
theorem pos_succ (j : Nat) : (0 < ((j + 1 : Nat) : Int)) = True := by simp
theorem fin2 {α : Type} (b g : Bool) (E R : α) : (if b = true then R else (if g = true then E else R)) = if (if b = true then false else g) = true then E else R := by cases b <;> simp
abbrev VL {α : Type} (sz : Nat) (f : α → List D) (l : List α) : V := .c (.d (.l sz (l.map f)))
def pieceBad (n : Int) (prev : Option Piece) (k : Piece) : Bool :=
  if k.grade < -1048576 then true else if 1048576 < k.grade then true else if n ≤ k.from_ then true else (match prev with
    | some z => decide (k.from_ ≤ z.from_)
    | none => false)
def gradeGo (n : Int) : Option Piece → List Piece → Bool
  | _, [] => true
  | prev, k :: r => if pieceBad n prev k = true then false else gradeGo n (some k) r
def prevOf {α : Type} (l : List α) : Nat → Option α
  | 0 => none
  | j + 1 => l[j]?
set_option maxHeartbeats 4000000 in
theorem l213_0 (l : List Piece) (n : Int) (H : Heap) (hn : l.length < 2 ^ 63) : ∀ (r : List Piece) (i : Nat) (q : Option Piece), l.drop i = r → q = prevOf l i →
    runL tab ext k213_0 ⟨upd (upd (upd (upd (upd und 24 (.I i)) 23 (.I l.length)) 22 (VL 2 Piece.enc l)) 1 (.I n)) 0 (VL 2 Piece.enc l), hp H []⟩ =
    if gradeGo n q r = true then some (.exit 0, ⟨und, hp H []⟩) else some (.ret, ⟨upd und 4 (.I 11), hp H []⟩)
  | [], i, q, hs, hq => by
    have h0 := dr_end hs
    rw [s213_0, b213_0]
    simp (maxSteps := 4000000) only [↓r213_6,  go_sem, ↓reduceIte, Nat.reduceMul, Int.reduceLT, Int.reduceNeg, Int.reduceEq, Int.reduceLE, Int.reduceAdd, Int.reduceSub, Nat.reduceEqDiff, Nat.reduceLeDiff, Nat.reduceLT, Nat.reduceAdd, reduceCtorEq, Piece.enc, Piece.encC_all, Piece.enc_0, Piece.enc_1, Piece.enc_all, Piece.enc_len, List.getElem?_map, Option.map_some, List.length_map, map_clC, map_nmC, ei64_0, eu8_0, eL_0, h0]
    simp only [gradeGo, kst, if_true]
  | k :: r, i, q, hs, hq => by
    obtain ⟨h1, h2, h3⟩ := dr_cons hs
    have ih := l213_0 l n H hn r (i + 1) (some k) h3 h1.symm
    subst hq
    have h4 := dr_lt h2
    have h5 := w64_inc h2 hn
    rw [s213_0, b213_0]
    cases i with
    | zero =>
      simp only [nat_0, Nat.zero_add, nat_1] at h4 h5 ih ⊢
      simp (maxSteps := 4000000) only [↓r213_6,  go_sem, ↓reduceIte, Nat.reduceMul, Int.reduceLT, Int.reduceNeg, Int.reduceEq, Int.reduceLE, Int.reduceAdd, Int.reduceSub, Nat.reduceEqDiff, Nat.reduceLeDiff, Nat.reduceLT, Nat.reduceAdd, reduceCtorEq, Piece.enc, Piece.encC_all, Piece.enc_0, Piece.enc_1, Piece.enc_all, Piece.enc_len, List.getElem?_map, Option.map_some, List.length_map, map_clC, map_nmC, ei64_0, eu8_0, eL_0, h1, h4, h5, ih]
      simp only [gradeGo, pieceBad, prevOf, h1, kst]
      exact fin2 _ _ _ _
    | succ j =>
      have h6 := w64_dec h2 hn
      have h7 : ∃ z, l[j]? = some z := ⟨l[j]'(by omega), List.getElem?_eq_getElem _⟩
      obtain ⟨z, h7⟩ := h7
      simp (maxSteps := 4000000) only [↓r213_6,  go_sem, ↓reduceIte, Nat.reduceMul, Int.reduceLT, Int.reduceNeg, Int.reduceEq, Int.reduceLE, Int.reduceAdd, Int.reduceSub, Nat.reduceEqDiff, Nat.reduceLeDiff, Nat.reduceLT, Nat.reduceAdd, reduceCtorEq, Piece.enc, Piece.encC_all, Piece.enc_0, Piece.enc_1, Piece.enc_all, Piece.enc_len, List.getElem?_map, Option.map_some, List.length_map, map_clC, map_nmC, ei64_0, eu8_0, eL_0, h1, h4, h5, ih, h6, h7, pos_succ]
      simp only [gradeGo, pieceBad, prevOf, h7, h1, kst]
      exact fin2 _ _ _ _
def gradeCheck (l : List Piece) (n : Int) : Int :=
  match l with
  | [] => 11
  | x :: t => if (if 64 < ((x :: t).length : Int) then true else decide (¬ x.from_ = 0)) = true then 11 else if gradeGo n none (x :: t) = true then 0 else 11
set_option maxHeartbeats 4000000 in
theorem c213 {H : Heap} (l : List Piece) (n : Int) (hn : l.length < 2 ^ 63) : callL tab ext 213 [VL 2 Piece.enc l, .I n] H = some (.I (gradeCheck l n), H) := by
  have hl := l213_0 (ext := ext) l n H hn l 0 none rfl rfl
  simp only [nat_0] at hl
  rw [cl_213 rfl, B213]
  cases l with
  | nil => simp (maxSteps := 4000000) only [go_sem, ↓reduceIte, Nat.reduceMul, Int.reduceLT, Int.reduceNeg, Int.reduceEq, Int.reduceLE, Int.reduceAdd, Int.reduceSub, Nat.reduceEqDiff, Nat.reduceLeDiff, Nat.reduceLT, Nat.reduceAdd, reduceCtorEq, Piece.enc, Piece.encC_all, Piece.enc_0, Piece.enc_1, Piece.enc_all, Piece.enc_len, List.getElem?_map, Option.map_some, List.length_map, map_clC, map_nmC, ei64_0, eu8_0, eL_0, gradeCheck]
  | cons x t =>
    have h1 : ((((x :: t).length : Nat) : Int) = 0) = False := by simp; omega
    have h2 : (x :: t)[0]? = some x := rfl
    generalize hg : x :: t = l at *
    simp (maxSteps := 4000000) only [go_sem, ↓reduceIte, Nat.reduceMul, Int.reduceLT, Int.reduceNeg, Int.reduceEq, Int.reduceLE, Int.reduceAdd, Int.reduceSub, Nat.reduceEqDiff, Nat.reduceLeDiff, Nat.reduceLT, Nat.reduceAdd, reduceCtorEq, Piece.enc, Piece.encC_all, Piece.enc_0, Piece.enc_1, Piece.enc_all, Piece.enc_len, List.getElem?_map, Option.map_some, List.length_map, map_clC, map_nmC, ei64_0, eu8_0, eL_0, h1, h2, hl]
    subst hg
    simp only [gradeCheck]
    repeat' (first | with_reducible rfl | split)
    all_goals (first | with_reducible rfl | (simp_all; done))

end
end Go.Ab
