/-
  What functions of the program come to.
  Conditions: none.
-/
import Derived.Test.YtnnjmbblpmghfaaGreatSb
set_option linter.unusedSimpArgs false
set_option linter.unusedVariables false
namespace Go.Ab
section
variable {ext : Callee}
theorem ownL_0 {α : Type} {en sz : Nat} {f : α → List D} : ownL en sz f ([] : List α) = .nil sz := rfl
def placesGo : Int → List Tick → List Int
  | _, [] => []
  | a, k :: r => w64 (a + k.v) :: placesGo (w64 (a + k.v)) r
theorem app_ok {n i : Nat} (h : i < n) (hn : n ≤ 4096) (b : Nat) (hb : b ≤ 1000) : ((i + 1) * b ≤ 140737488355328) = True := by
  simp only [eq_iff_iff, iff_true]
  have h1 : (i + 1) * b ≤ 4096 * 1000 := Nat.mul_le_mul (by omega) hb
  omega
def countsGo (p x : Int) (w : Nat) : Int → List Tick → List Int
  | _, [] => []
  | a, k :: r => (rFloor (w64 (a + w64 (w64 (p * k.v) + k.slip w))) 1 x).1 :: countsGo p x w (w64 (a + w64 (w64 (p * k.v) + k.slip w))) r
def counts (c : Config) (s : Script) (w : Nat) : List Int := countsGo c.pulses (s.circ w) w (s.phase w) s.ticks
def fitS (y : Tick) (q : Option Tick) (i : Nat) : Bool := if i = 2 then !(y.lost 2) else match q with
  | none => false
  | some z => if y.lost i = true then false else !(z.lost i)
def wrongS (c : Config) (y : Tick) (i : Nat) : Bool := if i = 2 then !(within y.rad (cfgErr c (w64 (y.v + y.rad)))) else decide (¬ y.slip i = 0)
end
end Go.Ab
namespace Go.Ab
section
variable {ext : Callee}
def pulseDelta (a b : Int) : Int := w64 (IntKind.i16.wrap (IntKind.u16.wrap (IntKind.u16.wrap b - IntKind.u16.wrap a)))
def saysT (c : Config) (a b : Int) : Span := (tacho (pulseDelta a b) ⟨c.circLo, c.circHi⟩ c.pulses).1
def saysR (c : Config) (y : Tick) : Span := (spanGrow ⟨w64 (y.v + y.rad), w64 (y.v + y.rad)⟩ (cfgErr c (w64 (y.v + y.rad)))).1
end
end Go.Ab
namespace Go.Ab
section
variable {ext : Callee}
def meet (a b : Span) : Span × Bool := spanBoth (if b.lo > a.lo then b.lo else a.lo) true (if b.hi < a.hi then b.hi else a.hi) true
def commonGo : Span → List Span → Span × Bool
  | m, [] => (m, true)
  | m, k :: r => if (meet m k).2 = true then commonGo (meet m k).1 r else ((meet m k).1, false)
set_option maxHeartbeats 4000000 in
theorem l154_0 (l : List Span) (H : Heap) (hn : l.length < 2 ^ 63) : ∀ (r : List Span) (i : Nat) (a b : Int), l.drop i = r →
    runL tab ext k154_0 ⟨(upd (upd (upd (upd (upd und 17 (.I i)) 16 (.I l.length)) 15 (VL 2 Span.enc l)) 4 (.c (.ptr (pid H 1) 0))) 2 (.c (.ptr (pid H 0) 0))), hp H [⟨true, [J 0, J 0]⟩, ⟨true, [J a, J b]⟩]⟩ =
    if (commonGo ⟨a, b⟩ r).2 = true then some (.exit 0, ⟨(upd (upd und 4 (.c (.ptr (pid H 1) 0))) 2 (.c (.ptr (pid H 0) 0))), hp H [⟨true, [J 0, J 0]⟩, ⟨true, [J (commonGo ⟨a, b⟩ r).1.lo, J (commonGo ⟨a, b⟩ r).1.hi]⟩]⟩)
    else some (.ret, ⟨(upd (upd und 3 (.B false)) 2 (.c (.ptr (pid H 0) 0))), hp H [⟨true, [J 0, J 0]⟩, ⟨true, [J (commonGo ⟨a, b⟩ r).1.lo, J (commonGo ⟨a, b⟩ r).1.hi]⟩]⟩)
  | [], i, a, b, hs => by
    have h0 := dr_end hs
    rw [s154_0, b154_0]
    simp (maxSteps := 4000000) only [ go_sem, ↓reduceIte, Nat.reduceMul, Int.reduceLT, Int.reduceNeg, Int.reduceEq, Int.reduceLE, Int.reduceAdd, Int.reduceSub, Nat.reduceEqDiff, Nat.reduceLeDiff, Nat.reduceLT, Nat.reduceAdd, reduceCtorEq, Span.enc, Span.encC_all, Span.enc_0, Span.enc_1, Span.enc_all, Span.enc_len, List.getElem?_map, Option.map_some, List.length_map, map_clC, map_nmC, ei64_0, eu8_0, eL_0, h0]
    simp only [commonGo, kst, if_true]
  | k :: r, i, a, b, hs => by
    obtain ⟨h1, h2, h3⟩ := dr_cons hs
    have ih := fun a b => l154_0 l H hn r (i + 1) a b h3
    have h4 := dr_lt h2
    have h5 := w64_inc h2 hn
    have hm := fun H => c226 (ext := ext) (H := H) a b k.lo k.hi
    rw [show spanBoth (if k.lo > a then k.lo else a) true (if k.hi < b then k.hi else b) true = meet ⟨a, b⟩ k from rfl] at hm
    rw [s154_0, b154_0]
    simp (maxSteps := 4000000) only [ go_sem, ↓reduceIte, Nat.reduceMul, Int.reduceLT, Int.reduceNeg, Int.reduceEq, Int.reduceLE, Int.reduceAdd, Int.reduceSub, Nat.reduceEqDiff, Nat.reduceLeDiff, Nat.reduceLT, Nat.reduceAdd, reduceCtorEq, Span.enc, Span.encC_all, Span.enc_0, Span.enc_1, Span.enc_all, Span.enc_len, List.getElem?_map, Option.map_some, List.length_map, map_clC, map_nmC, ei64_0, eu8_0, eL_0, h1, h4, h5, ih, hm]
    simp only [commonGo, kst]
    by_cases h : (meet ⟨a, b⟩ k).2 = true
    · simp only [if_pos h, Span.eta]
      simp [h]
    · simp [h]
def common : List Span → Span × Bool
  | [] => (⟨0, 0⟩, false)
  | m :: r => if (commonGo m (m :: r)).2 = true then ((commonGo m (m :: r)).1, true) else (⟨0, 0⟩, false)
set_option maxHeartbeats 4000000 in
theorem c154 {H : Heap} (l : List Span) (hn : l.length < 2 ^ 63) : callL tab ext 154 [VL 2 Span.enc l] H = some (.tup [.agg [J (common l).1.lo, J (common l).1.hi], .B (common l).2], H) := by
  rw [cl_154 rfl, B154]
  cases l with
  | nil => simp (maxSteps := 4000000) only [go_sem, ↓reduceIte, Nat.reduceMul, Int.reduceLT, Int.reduceNeg, Int.reduceEq, Int.reduceLE, Int.reduceAdd, Int.reduceSub, Nat.reduceEqDiff, Nat.reduceLeDiff, Nat.reduceLT, Nat.reduceAdd, reduceCtorEq, Span.enc, Span.encC_all, Span.enc_0, Span.enc_1, Span.enc_all, Span.enc_len, List.getElem?_map, Option.map_some, List.length_map, map_clC, map_nmC, ei64_0, eu8_0, eL_0, common]
  | cons m r =>
    have h1 : ((((m :: r).length : Nat) : Int) = 0) = False := by simp; omega
    have h2 : (m :: r)[0]? = some m := rfl
    have hl := l154_0 (ext := ext) (m :: r) H hn (m :: r) 0 m.lo m.hi rfl
    simp only [nat_0, Span.eta] at hl
    simp only [common]
    generalize hg : m :: r = l at *
    simp (maxSteps := 4000000) only [go_sem, ↓reduceIte, Nat.reduceMul, Int.reduceLT, Int.reduceNeg, Int.reduceEq, Int.reduceLE, Int.reduceAdd, Int.reduceSub, Nat.reduceEqDiff, Nat.reduceLeDiff, Nat.reduceLT, Nat.reduceAdd, reduceCtorEq, Span.enc, Span.encC_all, Span.enc_0, Span.enc_1, Span.enc_all, Span.enc_len, List.getElem?_map, Option.map_some, List.length_map, map_clC, map_nmC, ei64_0, eu8_0, eL_0, h1, h2, hl]
    by_cases h : (commonGo m l).2 = true <;> simp [h]
def senStep (f w : Bool) (sp : Span) (x : List Span × Int) : List Span × Int := if f = true then (x.1 ++ [sp], if w = true then w64 (x.2 + 1) else x.2) else x
def sensF (c : Config) (y : Tick) (q : Option Tick) (s0 s1 : Span) : List Span × Int :=
  senStep (fitS y q 2) (wrongS c y 2) (saysR c y) (senStep (fitS y q 1) (wrongS c y 1) s1 (senStep (fitS y q 0) (wrongS c y 0) s0 ([], 0)))
def sensEnd (x : List Span × Int) : Bool := if x.2 = 0 then true else if x.2 = 1 then (if (x.1.length : Int) = 3 then !(common x.1).2 else false) else false
def sensOk (c : Config) (s : Script) (c0 c1 : List Int) (k : Nat) : Bool := match s.ticks[k]? with
  | none => false
  | some y => sensEnd (sensF c y (prevOf s.ticks k) (saysT c (c0.getD (k - 1) 0) (c0.getD k 0)) (saysT c (c1.getD (k - 1) 0) (c1.getD k 0)))
def allGo (c : Config) (s : Script) (c0 c1 : List Int) : Nat → List Tick → Bool
  | _, [] => true
  | i, _ :: r => if sensOk c s c0 c1 i = true then allGo c s c0 c1 (i + 1) r else false
end
end Go.Ab
namespace Go.Ab
section
variable {ext : Callee}
def cmpI (x y : Int) : Int := if x < y then -1 else if y < x then 1 else 0
def bsGo (l : List Group) (id : Int) : Nat → Nat → Nat → Nat
  | 0, i, _ => i
  | n + 1, i, j => if i < j then (match l[(i + j) / 2]? with
    | some g => if cmpI g.id id < 0 then bsGo l id n ((i + j) / 2 + 1) j else bsGo l id n i ((i + j) / 2)
    | none => i) else i
def find (l : List Group) (id : Int) : Nat × Bool := (bsGo l id l.length 0 l.length, match l[bsGo l id l.length 0 l.length]? with
  | some g => decide (cmpI g.id id = 0)
  | none => false)
end
end Go.Ab
namespace Go.Ab
section
variable {ext : Callee}
def nominal (t : Track) (s : Script) (r : Read) : Int × Bool :=
  if (find t.groups r.group).2 = false then (0, false) else if r.index < 0 then (0, false) else if (s.route.length : Int) ≤ r.index then (0, false) else
  match s.route[r.index.toNat]?, t.groups[(find t.groups r.group).1]? with
  | some x, some g => if ¬ x = g.segment then (0, false) else (w64 (startGo t 0 (s.route.take r.index.toNat) + g.offset), true)
  | _, _ => (0, false)
theorem find_some {l : List Group} {id : Int} (h : (find l id).2 = true) : ∃ g, l[(find l id).1]? = some g ∧ cmpI g.id id = 0 := by
  simp only [find] at h ⊢
  split at h
  · rename_i g hg; exact ⟨g, hg, by simpa using h⟩
  · cases h
def readOk (c : Config) (t : Track) (s : Script) (pl : List Int) (r : Read) (ahead : Int) : Bool :=
  if r.cycle ≤ ahead then false else if (s.ticks.length : Int) ≤ r.cycle then false else if (nominal t s r).2 = false then false else
  match pl[r.cycle.toNat]?, t.groups[(find t.groups r.group).1]? with
  | some to, some g =>
    let from_ := match prevOf pl r.cycle.toNat with
      | some z => z
      | none => s.start
    if (if to < from_ then to else from_) ≤ r.point then (if r.point ≤ (if to > from_ then to else from_) then within (w64 (r.point - (nominal t s r).1)) (w64 (g.acc + c.antenna)) else false) else false
  | _, _ => false
theorem nominal_find {t : Track} {s : Script} {r : Read} (h : (nominal t s r).2 = true) : (find t.groups r.group).2 = true := by
  cases hf : (find t.groups r.group).2 with
  | true => rfl
  | false => simp [nominal, hf] at h
def readsGo (c : Config) (t : Track) (s : Script) (pl : List Int) : Int → List Read → Bool
  | _, [] => true
  | a, k :: r => if readOk c t s pl k a = true then readsGo c t s pl k.cycle r else false
end
end Go.Ab
namespace Go.Ab
section
variable {ext : Callee}
def sizeK (x : Int) : Int := if x = 1 then 2 else if x = 2 then 2 else if x = 5 then 2 else if x = 3 then 4 else if x = 4 then 4 else 0
def signedK (x : Int) : Bool := if x = 3 then true else decide (x = 4)
def crcStep (x : Int) : Int := if iand .u16 x 32768 = 0 then ishl .u16 x 1 else ixor .u16 (ishl .u16 x 1) 4129
def crcIt : Nat → Int → Int
  | 0, x => x
  | n + 1, x => crcIt n (crcStep x)
def crcMore (x b : Int) : Int := crcIt 8 (ixor .u16 x (ishl .u16 (IntKind.u16.wrap b) 8))
def crcGo : Int → List Int → Int
  | x, [] => x
  | x, b :: r => crcGo (crcMore x b) r
def valGo : Int → List Int → Int
  | v, [] => v
  | v, x :: r => valGo (ior .u32 (ishl .u32 v 8) (IntKind.u32.wrap x)) r
def frZ : Frame := ⟨0, 0, 0⟩
def frameGet (b : List Int) : Frame × Int :=
  match b with
  | x0 :: x1 :: x2 :: _ :: _ :: _ =>
    if sizeK (w64 x0) = 0 then (frZ, 30) else if ¬ w64 x2 = sizeK (w64 x0) then (frZ, 11) else if ¬ (b.length : Int) = w64 (w64 (3 + sizeK (w64 x0)) + 2) then (frZ, 11) else if ¬ crcGo 65535 b = 0 then (frZ, 31) else
    (⟨w64 x0, w64 x1, if signedK (w64 x0) = true then w64 (IntKind.i32.wrap (valGo 0 ((b.drop 3).take (sizeK (w64 x0)).toNat))) else w64 (valGo 0 ((b.drop 3).take (sizeK (w64 x0)).toNat))⟩, 0)
  | _ => (frZ, 14)
theorem sizeK_cases (x : Int) : sizeK x = 0 ∨ sizeK x = 2 ∨ sizeK x = 4 := by
  unfold sizeK; repeat' split
  all_goals simp
structure Script.Sz (s : Script) : Prop where
  route : s.route.length < 2 ^ 63
  ticks : s.ticks.length < 2 ^ 63
  reads : s.reads.length < 2 ^ 63
  junk : ∀ k ∈ s.ticks, k.junk.length < 2 ^ 63 ∧ ∀ b ∈ k.junk, b.length < 2 ^ 63
def junkBad (k : Int) (b : List Int) : Bool := if (frameGet b).2 = 0 then decide ((frameGet b).1.seq = iand .i64 k 255) else false
def junkGo (k : Int) : List (List Int) → Bool
  | [] => true
  | b :: r => if junkBad k b = true then false else junkGo k r
end
end Go.Ab
