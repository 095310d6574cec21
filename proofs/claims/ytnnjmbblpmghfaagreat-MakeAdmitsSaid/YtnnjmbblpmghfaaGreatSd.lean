/-
  What functions of the program come to.
  Conditions: none.
-/
import Derived.Test.YtnnjmbblpmghfaaGreatSc
set_option linter.unusedSimpArgs false
set_option linter.unusedVariables false
namespace Go.Ab
section
variable {ext : Callee}
def junkAll : Nat → List Tick → Bool
  | _, [] => true
  | i, k :: r => if 27 < (k.junk.length : Int) then false else if junkGo i k.junk = true then junkAll (i + 1) r else false
end
end Go.Ab
namespace Go.Ab
section
variable {ext : Callee}
def admitCheck (c : Config) (t : Track) (s : Script) : Int :=
  if ¬ (cfgFits c t).1 = 0 then 1 else if routeOk t s = false then 2 else if onOk t s = false then 3 else if speedsOk c s = false then 4 else if wheelsOk c s = false then 5 else if numsGo c s.ticks = false then 6 else if allGo c s (counts c s 0) (counts c s 1) 0 s.ticks = false then 7 else if readsGo c t s (placesGo s.start s.ticks) (-1) s.reads = false then 8 else if junkAll 0 s.ticks = false then 9 else 0
theorem routeGo_in {t : Track} : ∀ {r : List Int} {q : Option Int}, routeGo t q r = true → InT t r
  | [], _, _ => fun x hx => by cases hx
  | k :: r, q, h => by
    simp only [routeGo] at h
    by_cases hb : routeBad t q k = true
    · simp [hb] at h
    · rw [if_neg hb] at h
      intro x hx
      rcases List.mem_cons.1 hx with rfl | hx
      · rcases seg_cases t.segments.length x with h1 | ⟨h1, h1'⟩ | ⟨n, h1, h2⟩
        · exact (hb (by simp [routeBad, h1])).elim
        · exact (hb (by simp [routeBad, h1, h1'])).elim
        · exact ⟨n, h1, h2⟩
      · exact routeGo_in h x hx
theorem placesGo_len : ∀ (r : List Tick) (a : Int), (placesGo a r).length = r.length
  | [], _ => rfl
  | k :: r, a => by simp [placesGo, placesGo_len r]
theorem countsGo_len (p x : Int) (w : Nat) : ∀ (r : List Tick) (a : Int), (countsGo p x w a r).length = r.length
  | [], _ => rfl
  | k :: r, a => by simp [countsGo, countsGo_len p x w r]
end
end Go.Ab
namespace Go.Ab
section
variable {ext : Callee}
theorem chop_one {sz : Nat} {l : List D} : chop sz 1 l = [l.take sz] := rfl
def usualC : Config := ⟨1024, 131072, 131072, 0, 0, 0, 1000, 100, 0, 1, 128, 0, 5, 2⟩
def zeroC : Config := ⟨0, 0, 0, 0, 0, 0, 0, 0, 0, 0, 0, 0, 0, 0⟩
def zeroS : Script := ⟨[], 0, 0, fun _ => 0, fun _ => 0, [], []⟩
def segBig : List Segment → Bool
  | [] => false
  | k :: r => if 100 < (k.pieces.length : Int) then true else if 3 < (k.next.length : Int) then true else segBig r
def bytesBig : List (List Int) → Bool
  | [] => false
  | b :: r => if 200 < (b.length : Int) then true else bytesBig r
def tickBig : List Tick → Bool
  | [] => false
  | k :: r => if 50 < (k.junk.length : Int) then true else if bytesBig k.junk = true then true else tickBig r
def great (t : Track) (s : Script) : Bool :=
  if 50 < (t.segments.length : Int) then true else if 100 < (t.groups.length : Int) then true else if 120 < (s.ticks.length : Int) then true else if 120 < (s.reads.length : Int) then true else if 500 < (s.route.length : Int) then true else
  if segBig t.segments = true then true else tickBig s.ticks
end
end Go.Ab
namespace Go.Ab
section
variable {ext : Callee}
section
variable {c : Callee} {e : Env} {H : Heap} {d : Nat}
def ldtC (e : Env) (H : Heap) (d id off : Nat) (bx : Box) (x : C) : Option St :=
  match x with
  | .own en sz rows => some ⟨upd e d (.c (.own en sz rows)), H.set id ⟨bx.live, bx.cells.set off (.d (.l sz rows))⟩⟩
  | .nil sz => some ⟨upd e d (.c (.nil sz)), H.set id ⟨bx.live, bx.cells.set off (.nil sz)⟩⟩
  | _ => none
theorem ldtC_ownL {α : Type} {id off en sz : Nat} {f : α → List D} {l : List α} {bx : Box} : ldtC e H d id off bx (ownL en sz f l) = some ⟨upd e d (.c (ownL en sz f l)), H.set id ⟨bx.live, bx.cells.set off (ownCl sz f l)⟩⟩ := by
  cases l <;> rfl
theorem set_same {α : Type} {l : List α} {i : Nat} {x : α} (h : l[i]? = some x) : l.set i x = l := by
  apply List.ext_getElem?
  intro j
  rw [List.getElem?_set]
  split
  · rename_i hij; subst hij
    split
    · exact h.symm
    · rename_i hh; exact (hh (List.getElem?_eq_some_iff.1 h).1).elim
  · rfl
theorem step_ldt {a : Opd} : step c ⟨e, H⟩ (.ldt d a) = bX (ev e a) fun u => (match u with
    | .c (.ptr id off) => bO H[id]? fun bx => bO bx.cells[off]? fun x => ldtC e H d id off bx x
    | _ => none) := by
  simp only [step, bX]
  generalize ev e a = u
  cases u with
  | c u => cases u with
    | ptr id off =>
      simp only
      cases hb : H[id]? with
      | none => rfl
      | some bx =>
        simp only [bO]
        cases hx : bx.cells[off]? with
        | none => rfl
        | some x =>
          cases x with
          | own en sz rows => rfl
          | nil sz =>
            simp only [ldtC]
            rw [set_same hx]
            have : (⟨bx.live, bx.cells⟩ : Box) = bx := rfl
            rw [this, set_same hb]
          | _ => rfl
    | _ => rfl
  | _ => rfl
def sttC (e : Env) (H : Heap) (x : Nat) (u w : V) : Option St :=
  match u, w with
  | .c (.ptr id off), .c (.own en sz rows) => bO (stV H 1 (.c (.ptr id off)) [.own en sz rows]) fun H' => some ⟨upd e x (.c (.d (.l sz rows))), H'⟩
  | .c (.ptr id off), .c (.nil sz) => bO (stV H 1 (.c (.ptr id off)) [.nil sz]) fun H' => some ⟨upd e x (.c (.nil sz)), H'⟩
  | _, _ => none
theorem sttC_ownL {α : Type} {x id off en sz : Nat} {f : α → List D} {l : List α} : sttC e H x (.c (.ptr id off)) (.c (ownL en sz f l)) = bO (stV H 1 (.c (.ptr id off)) [ownL en sz f l]) fun H' => some ⟨upd e x (.c (ownCl sz f l)), H'⟩ := by
  cases l <;> rfl
theorem step_stt {a : Opd} {x : Nat} : step c ⟨e, H⟩ (.stt a x) = bX (ev e a) fun u => bX (e x) fun w => sttC e H x u w := by
  simp only [step, bX]
  generalize hw : e x = w
  generalize ev e a = u
  cases u with
  | c u => cases u with
    | ptr id off =>
      cases w with
      | c w => cases w with
        | own en sz rows =>
          simp only [sttC, stV, List.length_cons, List.length_nil, Nat.zero_add, if_true]
          cases storeCells H id off [.own en sz rows] <;> rfl
        | nil sz =>
          simp only [sttC, stV, List.length_cons, List.length_nil, Nat.zero_add, if_true]
          rw [upd_self hw]
          cases storeCells H id off [.nil sz] <;> rfl
        | _ => rfl
      | _ => rfl
    | _ => rfl
  | _ => rfl
end
def b2i (b : Bool) : Int := if b = true then 1 else 0
def refTick (k : Tick) : RTick := ⟨k.v, k.slip, k.rad, k.acc, fun i => b2i (k.lost i), k.junk, b2i k.command⟩
def refS (s : Script) : RScript := ⟨s.route, s.start, s.v0, s.circ, s.phase, s.ticks.map refTick, s.reads⟩
end
end Go.Ab
namespace Go.Ab
section
variable {ext : Callee}
def far (x m : Int) : Bool := if x < w64 (0 - m) then true else decide (m < x)
set_option maxHeartbeats 4000000 in
theorem c77 {H : Heap} (x m : Int) : callL tab ext 77 [.I x, .I m] H = some (.B (far x m), H) := by
  rw [cl_77 rfl, B77]
  simp (maxSteps := 4000000) only [go_sem, ↓reduceIte, Nat.reduceMul, Int.reduceLT, Int.reduceNeg, Int.reduceEq, Int.reduceLE, Int.reduceAdd, Int.reduceSub, Nat.reduceEqDiff, Nat.reduceLeDiff, Nat.reduceLT, Nat.reduceAdd, reduceCtorEq, List.getElem?_map, Option.map_some, List.length_map, map_clC, map_nmC, ei64_0, eu8_0, eL_0]
  try simp only [far]
  all_goals ((repeat' (first | with_reducible rfl | with_reducible contradiction | split)) <;> (first | with_reducible rfl | (simp_all; done) | (simp_all; omega) | omega))
def refErr (c : Config) (r : Int) : Int := w64 (c.radBase + w64 ((w64 ((if r < 0 then w64 (0 - r) else r) * c.radPart)).tdiv 1048576))
set_option maxHeartbeats 4000000 in
theorem c78 {H : Heap} (c : Config) (r : Int) : callL tab ext 78 [.agg ((Config.enc c).map .d), .I r] H = some (.I (refErr c r), H) := by
  have h0 : ((1048576 : Int) = 0) = False := by simp
  rw [cl_78 rfl, B78]
  by_cases h : r < 0
  · simp (maxSteps := 4000000) only [go_sem, ↓reduceIte, Nat.reduceMul, Int.reduceLT, Int.reduceNeg, Int.reduceEq, Int.reduceLE, Int.reduceAdd, Int.reduceSub, Nat.reduceEqDiff, Nat.reduceLeDiff, Nat.reduceLT, Nat.reduceAdd, reduceCtorEq, Config.encC_all, Config.enc_0, Config.enc_1, Config.enc_10, Config.enc_11, Config.enc_12, Config.enc_13, Config.enc_2, Config.enc_3, Config.enc_4, Config.enc_5, Config.enc_6, Config.enc_7, Config.enc_8, Config.enc_9, Config.enc_all, Config.enc_len, List.getElem?_map, Option.map_some, List.length_map, map_clC, map_nmC, ei64_0, eu8_0, eL_0, h, h0]
    simp only [refErr, if_pos h]
  · simp (maxSteps := 4000000) only [go_sem, ↓reduceIte, Nat.reduceMul, Int.reduceLT, Int.reduceNeg, Int.reduceEq, Int.reduceLE, Int.reduceAdd, Int.reduceSub, Nat.reduceEqDiff, Nat.reduceLeDiff, Nat.reduceLT, Nat.reduceAdd, reduceCtorEq, Config.encC_all, Config.enc_0, Config.enc_1, Config.enc_10, Config.enc_11, Config.enc_12, Config.enc_13, Config.enc_2, Config.enc_3, Config.enc_4, Config.enc_5, Config.enc_6, Config.enc_7, Config.enc_8, Config.enc_9, Config.enc_all, Config.enc_len, List.getElem?_map, Option.map_some, List.length_map, map_clC, map_nmC, ei64_0, eu8_0, eL_0, h, h0]
    simp only [refErr, if_neg h]
def refRadar (c : Config) (r : Int) : Int × Int := (w64 (r - refErr c r), w64 (r + refErr c r))
set_option maxHeartbeats 4000000 in
theorem c79 {H : Heap} (c : Config) (r : Int) : callL tab ext 79 [.agg ((Config.enc c).map .d), .I r] H = some (.tup [.I (refRadar c r).1, .I (refRadar c r).2], H) := by
  rw [cl_79 rfl, B79]
  simp (maxSteps := 4000000) only [go_sem, ↓reduceIte, Nat.reduceMul, Int.reduceLT, Int.reduceNeg, Int.reduceEq, Int.reduceLE, Int.reduceAdd, Int.reduceSub, Nat.reduceEqDiff, Nat.reduceLeDiff, Nat.reduceLT, Nat.reduceAdd, reduceCtorEq, Config.encC_all, Config.enc_0, Config.enc_1, Config.enc_10, Config.enc_11, Config.enc_12, Config.enc_13, Config.enc_2, Config.enc_3, Config.enc_4, Config.enc_5, Config.enc_6, Config.enc_7, Config.enc_8, Config.enc_9, Config.enc_all, Config.enc_len, List.getElem?_map, Option.map_some, List.length_map, map_clC, map_nmC, ei64_0, eu8_0, eL_0, c78]
  try simp only [refRadar]
  all_goals ((repeat' (first | with_reducible rfl | with_reducible contradiction | split)) <;> (first | with_reducible rfl | (simp_all; done) | (simp_all; omega) | omega))
def rDown (a b : Int) : Int := if a.tmod b < 0 then w64 (w64 (a.tdiv b) - 1) else w64 (a.tdiv b)
set_option maxHeartbeats 4000000 in
theorem c118 {H : Heap} (a b : Int) (hb : (b = 0) = False) : callL tab ext 118 [.I a, .I b] H = some (.I (rDown a b), H) := by
  rw [cl_118 rfl, B118]
  simp (maxSteps := 4000000) only [go_sem, ↓reduceIte, Nat.reduceMul, Int.reduceLT, Int.reduceNeg, Int.reduceEq, Int.reduceLE, Int.reduceAdd, Int.reduceSub, Nat.reduceEqDiff, Nat.reduceLeDiff, Nat.reduceLT, Nat.reduceAdd, reduceCtorEq, List.getElem?_map, Option.map_some, List.length_map, map_clC, map_nmC, ei64_0, eu8_0, eL_0, hb]
  try simp only [rDown]
  all_goals ((repeat' (first | with_reducible rfl | with_reducible contradiction | split)) <;> (first | with_reducible rfl | (simp_all; done) | (simp_all; omega) | omega))
def rUp (a b : Int) : Int := w64 (0 - rDown (w64 (0 - a)) b)
set_option maxHeartbeats 4000000 in
theorem c119 {H : Heap} (a b : Int) (hb : (b = 0) = False) : callL tab ext 119 [.I a, .I b] H = some (.I (rUp a b), H) := by
  rw [cl_119 rfl, B119]
  simp (maxSteps := 4000000) only [go_sem, ↓reduceIte, Nat.reduceMul, Int.reduceLT, Int.reduceNeg, Int.reduceEq, Int.reduceLE, Int.reduceAdd, Int.reduceSub, Nat.reduceEqDiff, Nat.reduceLeDiff, Nat.reduceLT, Nat.reduceAdd, reduceCtorEq, List.getElem?_map, Option.map_some, List.length_map, map_clC, map_nmC, ei64_0, eu8_0, eL_0, c118 _ _ hb]
  try simp only [rUp]
  all_goals ((repeat' (first | with_reducible rfl | with_reducible contradiction | split)) <;> (first | with_reducible rfl | (simp_all; done) | (simp_all; omega) | omega))
def rDelta (a b : Int) : Int := if 32768 ≤ (w64 (w64 (b - a) + 65536)).tmod 65536 then w64 ((w64 (w64 (b - a) + 65536)).tmod 65536 - 65536) else (w64 (w64 (b - a) + 65536)).tmod 65536
theorem n65536 : ((65536 : Int) = 0) = False := by simp
set_option maxHeartbeats 4000000 in
theorem c81 {H : Heap} (a b : Int) : callL tab ext 81 [.I a, .I b] H = some (.I (rDelta a b), H) := by
  rw [cl_81 rfl, B81]
  simp (maxSteps := 4000000) only [go_sem, ↓reduceIte, Nat.reduceMul, Int.reduceLT, Int.reduceNeg, Int.reduceEq, Int.reduceLE, Int.reduceAdd, Int.reduceSub, Nat.reduceEqDiff, Nat.reduceLeDiff, Nat.reduceLT, Nat.reduceAdd, reduceCtorEq, List.getElem?_map, Option.map_some, List.length_map, map_clC, map_nmC, ei64_0, eu8_0, eL_0, n65536]
  try simp only [rDelta]
  all_goals ((repeat' (first | with_reducible rfl | with_reducible contradiction | split)) <;> (first | with_reducible rfl | (simp_all; done) | (simp_all; omega) | omega))
def rTacho (d lo hi p : Int) : Int × Int := (if d < 1 then rDown (w64 (w64 (d - 1) * hi)) p else rDown (w64 (w64 (d - 1) * lo)) p, if d < -1 then rUp (w64 (w64 (d + 1) * lo)) p else rUp (w64 (w64 (d + 1) * hi)) p)
set_option maxHeartbeats 4000000 in
theorem c82 {H : Heap} (d lo hi p : Int) (hp' : (p = 0) = False) : callL tab ext 82 [.I d, .I lo, .I hi, .I p] H = some (.tup [.I (rTacho d lo hi p).1, .I (rTacho d lo hi p).2], H) := by
  rw [cl_82 rfl, B82]
  simp (maxSteps := 4000000) only [go_sem, ↓reduceIte, Nat.reduceMul, Int.reduceLT, Int.reduceNeg, Int.reduceEq, Int.reduceLE, Int.reduceAdd, Int.reduceSub, Nat.reduceEqDiff, Nat.reduceLeDiff, Nat.reduceLT, Nat.reduceAdd, reduceCtorEq, List.getElem?_map, Option.map_some, List.length_map, map_clC, map_nmC, ei64_0, eu8_0, eL_0, c118 _ _ hp', c119 _ _ hp']
  try simp only [rTacho]
  all_goals ((repeat' (first | with_reducible rfl | with_reducible contradiction | split)) <;> (first | with_reducible rfl | (simp_all; done) | (simp_all; omega) | omega))
def turnGo (p : Int) (w : Nat) : Int → List RTick → Int
  | a, [] => a
  | a, k :: r => turnGo p w (w64 (w64 (a + w64 (p * k.v)) + k.slip w)) r
theorem take_get {α : Type} {l : List α} {n i : Nat} {k : α} (h : (l.take n)[i]? = some k) : l[i]? = some k := by
  rw [List.getElem?_take] at h
  split at h
  · exact h
  · cases h
set_option maxHeartbeats 4000000 in
theorem l80_0 (p : Int) (s : RScript) (w n : Nat) (hw : w = 0 ∨ w = 1) (hn : n ≤ s.ticks.length) (hk : s.ticks.length ≤ 4096) (H : Heap) : ∀ (r : List RTick) (i : Nat) (a : Int), (s.ticks.take n).drop i = r →
    runL tab ext k80_0 ⟨(upd (upd (upd (upd (upd (upd und 10 (.I i)) 9 (.I a)) 4 (.c (.ptr (pid H 0) 0))) 3 (.I n)) 2 (.I w)) 1 (.I p)), hp H [⟨true, (RScript.enc s).map .d⟩]⟩ =
    some (.exit 0, ⟨(upd (upd (upd und 9 (.I (turnGo p w a r))) 4 (.c (.ptr (pid H 0) 0))) 2 (.I w)), hp H [⟨true, (RScript.enc s).map .d⟩]⟩)
  | [], i, a, hs => by
    have h0 : ((i : Int) < (n : Int)) = False := by
      have := dr_end hs; simp only [List.length_take, Nat.min_eq_left hn] at this; exact this
    rw [s80_0, b80_0]
    simp (maxSteps := 4000000) only [↓r80_5,  go_sem, ↓reduceIte, Nat.reduceMul, Int.reduceLT, Int.reduceNeg, Int.reduceEq, Int.reduceLE, Int.reduceAdd, Int.reduceSub, Nat.reduceEqDiff, Nat.reduceLeDiff, Nat.reduceLT, Nat.reduceAdd, reduceCtorEq, RScript.encC_all, RScript.enc_0, RScript.enc_1, RScript.enc_2, RScript.enc_3, RScript.enc_4, RScript.enc_5, RScript.enc_6, RScript.enc_7, RScript.enc_8, RScript.enc_all, RScript.enc_len, RScript.subC_3_2, RScript.subC_5_2, RScript.sub_3_2, RScript.sub_5_2, List.getElem?_map, Option.map_some, List.length_map, map_clC, map_nmC, ei64_0, eu8_0, eL_0, h0]
    simp only [turnGo, kst]
  | k :: r, i, a, hs => by
    obtain ⟨h1, h2, h3⟩ := dr_cons hs
    simp only [List.length_take, Nat.min_eq_left hn] at h2
    have h1 := take_get h1
    have ih := l80_0 p s w n hw hn hk H r (i + 1) (w64 (w64 (a + w64 (p * k.v)) + k.slip w)) h3
    have h4 := dr_lt h2
    have h5 := w64_inc h2 (by omega)
    rw [s80_0, b80_0]
    rcases hw with rfl | rfl
    · simp only [nat_0] at ih ⊢
      simp (maxSteps := 4000000) only [↓r80_5,  go_sem, ↓reduceIte, Nat.reduceMul, Int.reduceLT, Int.reduceNeg, Int.reduceEq, Int.reduceLE, Int.reduceAdd, Int.reduceSub, Nat.reduceEqDiff, Nat.reduceLeDiff, Nat.reduceLT, Nat.reduceAdd, reduceCtorEq, RScript.encC_all, RScript.enc_0, RScript.enc_1, RScript.enc_2, RScript.enc_3, RScript.enc_4, RScript.enc_5, RScript.enc_6, RScript.enc_7, RScript.enc_8, RScript.enc_all, RScript.enc_len, RScript.subC_3_2, RScript.subC_5_2, RScript.sub_3_2, RScript.sub_5_2, RTick.encC_all, RTick.enc_0, RTick.enc_1, RTick.enc_10, RTick.enc_2, RTick.enc_3, RTick.enc_4, RTick.enc_5, RTick.enc_6, RTick.enc_7, RTick.enc_8, RTick.enc_9, RTick.enc_all, RTick.enc_len, RTick.subC_1_2, RTick.subC_5_4, RTick.sub_1_2, RTick.sub_5_4, List.getElem?_map, Option.map_some, List.length_map, map_clC, map_nmC, ei64_0, eu8_0, eL_0, h1, h4, h5, ih]
      simp only [turnGo, kst]
    · simp only [nat_1] at ih ⊢
      simp (maxSteps := 4000000) only [↓r80_5,  go_sem, ↓reduceIte, Nat.reduceMul, Int.reduceLT, Int.reduceNeg, Int.reduceEq, Int.reduceLE, Int.reduceAdd, Int.reduceSub, Nat.reduceEqDiff, Nat.reduceLeDiff, Nat.reduceLT, Nat.reduceAdd, reduceCtorEq, RScript.encC_all, RScript.enc_0, RScript.enc_1, RScript.enc_2, RScript.enc_3, RScript.enc_4, RScript.enc_5, RScript.enc_6, RScript.enc_7, RScript.enc_8, RScript.enc_all, RScript.enc_len, RScript.subC_3_2, RScript.subC_5_2, RScript.sub_3_2, RScript.sub_5_2, RTick.encC_all, RTick.enc_0, RTick.enc_1, RTick.enc_10, RTick.enc_2, RTick.enc_3, RTick.enc_4, RTick.enc_5, RTick.enc_6, RTick.enc_7, RTick.enc_8, RTick.enc_9, RTick.enc_all, RTick.enc_len, RTick.subC_1_2, RTick.subC_5_4, RTick.sub_1_2, RTick.sub_5_4, List.getElem?_map, Option.map_some, List.length_map, map_clC, map_nmC, ei64_0, eu8_0, eL_0, h1, h4, h5, ih]
      simp only [turnGo, kst]
def rCount (s : RScript) (p : Int) (w n : Nat) : Int := rDown (turnGo p w (s.phase w) (s.ticks.take n)) (s.circ w)
set_option maxHeartbeats 4000000 in
theorem c80 {H : Heap} (s : RScript) (p : Int) (w n : Nat) (hw : w = 0 ∨ w = 1) (hc : (s.circ w = 0) = False) (hn : n ≤ s.ticks.length) (hk : s.ticks.length ≤ 4096) : callL tab ext 80 [.agg ((RScript.enc s).map .d), .I p, .I w, .I n] H = some (.I (rCount s p w n), H) := by
  have hl := fun a => l80_0 (ext := ext) p s w n hw hn hk H (s.ticks.take n) 0 a rfl
  have hd := fun H a => c118 (ext := ext) (H := H) a (s.circ w) hc
  rw [cl_80 rfl, B80]
  rcases hw with rfl | rfl
  · simp only [nat_0] at hl ⊢
    simp (maxSteps := 4000000) only [↓r80_5,  go_sem, ↓reduceIte, Nat.reduceMul, Int.reduceLT, Int.reduceNeg, Int.reduceEq, Int.reduceLE, Int.reduceAdd, Int.reduceSub, Nat.reduceEqDiff, Nat.reduceLeDiff, Nat.reduceLT, Nat.reduceAdd, reduceCtorEq, RScript.encC_all, RScript.enc_0, RScript.enc_1, RScript.enc_2, RScript.enc_3, RScript.enc_4, RScript.enc_5, RScript.enc_6, RScript.enc_7, RScript.enc_8, RScript.enc_all, RScript.enc_len, RScript.subC_3_2, RScript.subC_5_2, RScript.sub_3_2, RScript.sub_5_2, List.getElem?_map, Option.map_some, List.length_map, map_clC, map_nmC, ei64_0, eu8_0, eL_0, hl, hd]
    simp only [rCount]
  · simp only [nat_0, nat_1] at hl ⊢
    simp (maxSteps := 4000000) only [↓r80_5,  go_sem, ↓reduceIte, Nat.reduceMul, Int.reduceLT, Int.reduceNeg, Int.reduceEq, Int.reduceLE, Int.reduceAdd, Int.reduceSub, Nat.reduceEqDiff, Nat.reduceLeDiff, Nat.reduceLT, Nat.reduceAdd, reduceCtorEq, RScript.encC_all, RScript.enc_0, RScript.enc_1, RScript.enc_2, RScript.enc_3, RScript.enc_4, RScript.enc_5, RScript.enc_6, RScript.enc_7, RScript.enc_8, RScript.enc_all, RScript.enc_len, RScript.subC_3_2, RScript.subC_5_2, RScript.sub_3_2, RScript.sub_5_2, List.getElem?_map, Option.map_some, List.length_map, map_clC, map_nmC, ei64_0, eu8_0, eL_0, hl, hd]
    simp only [rCount]
def fitR (y : RTick) (q : Option RTick) (i : Nat) : Bool := if ¬ y.lost i = 0 then false else if i = 2 then true else match q with
  | none => false
  | some z => decide (z.lost i = 0)
set_option maxHeartbeats 4000000 in
theorem c30 {H : Heap} (s : RScript) (i k : Nat) (y : RTick) (q : Option RTick) (hi : i = 0 ∨ i = 1 ∨ i = 2) (hy : s.ticks[k]? = some y) (hq : q = prevOf s.ticks k) (hn : s.ticks.length ≤ 4096) : callL tab ext 30 [.agg ((RScript.enc s).map .d), .I i, .I k] H = some (.B (fitR y q i), H) := by
  subst hq
  rw [cl_30 rfl, B30]
  have hk : k < s.ticks.length := (List.getElem?_eq_some_iff.1 hy).1
  cases k with
  | zero =>
    rcases hi with rfl | rfl | rfl <;> simp only [nat_0, nat_1, nat_2] <;>
      simp (maxSteps := 4000000) only [ go_sem, ↓reduceIte, Nat.reduceMul, Int.reduceLT, Int.reduceNeg, Int.reduceEq, Int.reduceLE, Int.reduceAdd, Int.reduceSub, Nat.reduceEqDiff, Nat.reduceLeDiff, Nat.reduceLT, Nat.reduceAdd, reduceCtorEq, RScript.encC_all, RScript.enc_0, RScript.enc_1, RScript.enc_2, RScript.enc_3, RScript.enc_4, RScript.enc_5, RScript.enc_6, RScript.enc_7, RScript.enc_8, RScript.enc_all, RScript.enc_len, RScript.subC_3_2, RScript.subC_5_2, RScript.sub_3_2, RScript.sub_5_2, RTick.encC_all, RTick.enc_0, RTick.enc_1, RTick.enc_10, RTick.enc_2, RTick.enc_3, RTick.enc_4, RTick.enc_5, RTick.enc_6, RTick.enc_7, RTick.enc_8, RTick.enc_9, RTick.enc_all, RTick.enc_len, RTick.subC_1_2, RTick.subC_5_4, RTick.sub_1_2, RTick.sub_5_4, List.getElem?_map, Option.map_some, List.length_map, map_clC, map_nmC, ei64_0, eu8_0, eL_0, hy] <;>
      simp only [fitR, prevOf] <;> all_goals ((repeat' (first | with_reducible rfl | with_reducible contradiction | split)) <;> (first | with_reducible rfl | (simp_all; done) | (simp_all; omega) | omega))
  | succ m =>
    obtain ⟨z, hz⟩ := get_ex (l := s.ticks) (n := m) (by omega)
    have h6 := w64_dec (n := s.ticks.length) (j := m) hk (by omega)
    rcases hi with rfl | rfl | rfl <;> simp only [nat_0, nat_1, nat_2] <;>
      simp (maxSteps := 4000000) only [ go_sem, ↓reduceIte, Nat.reduceMul, Int.reduceLT, Int.reduceNeg, Int.reduceEq, Int.reduceLE, Int.reduceAdd, Int.reduceSub, Nat.reduceEqDiff, Nat.reduceLeDiff, Nat.reduceLT, Nat.reduceAdd, reduceCtorEq, RScript.encC_all, RScript.enc_0, RScript.enc_1, RScript.enc_2, RScript.enc_3, RScript.enc_4, RScript.enc_5, RScript.enc_6, RScript.enc_7, RScript.enc_8, RScript.enc_all, RScript.enc_len, RScript.subC_3_2, RScript.subC_5_2, RScript.sub_3_2, RScript.sub_5_2, RTick.encC_all, RTick.enc_0, RTick.enc_1, RTick.enc_10, RTick.enc_2, RTick.enc_3, RTick.enc_4, RTick.enc_5, RTick.enc_6, RTick.enc_7, RTick.enc_8, RTick.enc_9, RTick.enc_all, RTick.enc_len, RTick.subC_1_2, RTick.subC_5_4, RTick.sub_1_2, RTick.sub_5_4, List.getElem?_map, Option.map_some, List.length_map, map_clC, map_nmC, ei64_0, eu8_0, eL_0, hy, hz, h6, pos_succ] <;>
      simp only [fitR, prevOf, hz] <;> all_goals ((repeat' (first | with_reducible rfl | with_reducible contradiction | split)) <;> (first | with_reducible rfl | (simp_all; done) | (simp_all; omega) | omega))
def wrongR (c : Config) (y : RTick) (i : Nat) : Bool := if i = 2 then far y.rad (refErr c (w64 (y.v + y.rad))) else decide (¬ y.slip i = 0)
set_option maxHeartbeats 4000000 in
theorem c31 {H : Heap} (c : Config) (s : RScript) (i k : Nat) (y : RTick) (hi : i = 0 ∨ i = 1 ∨ i = 2) (hy : s.ticks[k]? = some y) : callL tab ext 31 [.agg ((Config.enc c).map .d), .agg ((RScript.enc s).map .d), .I i, .I k] H = some (.B (wrongR c y i), H) := by
  rw [cl_31 rfl, B31]
  rcases hi with rfl | rfl | rfl <;> simp only [nat_0, nat_1, nat_2] <;>
    simp (maxSteps := 4000000) only [↓r31_3,  go_sem, ↓reduceIte, Nat.reduceMul, Int.reduceLT, Int.reduceNeg, Int.reduceEq, Int.reduceLE, Int.reduceAdd, Int.reduceSub, Nat.reduceEqDiff, Nat.reduceLeDiff, Nat.reduceLT, Nat.reduceAdd, reduceCtorEq, Config.encC_all, Config.enc_0, Config.enc_1, Config.enc_10, Config.enc_11, Config.enc_12, Config.enc_13, Config.enc_2, Config.enc_3, Config.enc_4, Config.enc_5, Config.enc_6, Config.enc_7, Config.enc_8, Config.enc_9, Config.enc_all, Config.enc_len, RScript.encC_all, RScript.enc_0, RScript.enc_1, RScript.enc_2, RScript.enc_3, RScript.enc_4, RScript.enc_5, RScript.enc_6, RScript.enc_7, RScript.enc_8, RScript.enc_all, RScript.enc_len, RScript.subC_3_2, RScript.subC_5_2, RScript.sub_3_2, RScript.sub_5_2, RTick.enc, RTick.encC_all, RTick.enc_0, RTick.enc_1, RTick.enc_10, RTick.enc_2, RTick.enc_3, RTick.enc_4, RTick.enc_5, RTick.enc_6, RTick.enc_7, RTick.enc_8, RTick.enc_9, RTick.enc_all, RTick.enc_len, RTick.subC_1_2, RTick.subC_5_4, RTick.sub_1_2, RTick.sub_5_4, List.getElem?_map, Option.map_some, List.length_map, map_clC, map_nmC, ei64_0, eu8_0, eL_0, hy, c78, c77] <;>
    simp only [wrongR] <;> all_goals ((repeat' (first | with_reducible rfl | with_reducible contradiction | split)) <;> (first | with_reducible rfl | (simp_all; done) | (simp_all; omega) | omega))

end
end Go.Ab
namespace Go.Ab
section
variable {ext : Callee}
def n16 (x : Int) : Int := (w64 (x.tmod 65536 + 65536)).tmod 65536
def rSaysT (c : Config) (s : RScript) (w k : Nat) : Int × Int := rTacho (rDelta (n16 (rCount s c.pulses w k)) (n16 (rCount s c.pulses w (k + 1)))) c.circLo c.circHi c.pulses
set_option maxHeartbeats 4000000 in
theorem c32_2 {H : Heap} (c : Config) (s : RScript) (k : Nat) (y : RTick) (hy : s.ticks[k]? = some y) : callL tab ext 32 [.agg ((Config.enc c).map .d), .agg ((RScript.enc s).map .d), .I 2, .I k] H = some (.agg [J (refRadar c (w64 (y.v + y.rad))).1, J (refRadar c (w64 (y.v + y.rad))).2], H) := by
  rw [cl_32 rfl, B32]
  simp (maxSteps := 4000000) only [↓r32_2,  go_sem, ↓reduceIte, Nat.reduceMul, Int.reduceLT, Int.reduceNeg, Int.reduceEq, Int.reduceLE, Int.reduceAdd, Int.reduceSub, Nat.reduceEqDiff, Nat.reduceLeDiff, Nat.reduceLT, Nat.reduceAdd, reduceCtorEq, Config.encC_all, Config.enc_0, Config.enc_1, Config.enc_10, Config.enc_11, Config.enc_12, Config.enc_13, Config.enc_2, Config.enc_3, Config.enc_4, Config.enc_5, Config.enc_6, Config.enc_7, Config.enc_8, Config.enc_9, Config.enc_all, Config.enc_len, RScript.encC_all, RScript.enc_0, RScript.enc_1, RScript.enc_2, RScript.enc_3, RScript.enc_4, RScript.enc_5, RScript.enc_6, RScript.enc_7, RScript.enc_8, RScript.enc_all, RScript.enc_len, RScript.subC_3_2, RScript.subC_5_2, RScript.sub_3_2, RScript.sub_5_2, RTick.encC_all, RTick.enc_0, RTick.enc_1, RTick.enc_10, RTick.enc_2, RTick.enc_3, RTick.enc_4, RTick.enc_5, RTick.enc_6, RTick.enc_7, RTick.enc_8, RTick.enc_9, RTick.enc_all, RTick.enc_len, RTick.subC_1_2, RTick.subC_5_4, RTick.sub_1_2, RTick.sub_5_4, List.getElem?_map, Option.map_some, List.length_map, map_clC, map_nmC, ei64_0, eu8_0, eL_0, hy, c79]
set_option maxHeartbeats 4000000 in
theorem c32_t {H : Heap} (c : Config) (s : RScript) (w k : Nat) (hw : w = 0 ∨ w = 1) (hk : k < s.ticks.length) (hn : s.ticks.length ≤ 4096) (hc : (s.circ w = 0) = False) (hp' : (c.pulses = 0) = False) : callL tab ext 32 [.agg ((Config.enc c).map .d), .agg ((RScript.enc s).map .d), .I w, .I k] H = some (.agg [J (rSaysT c s w k).1, J (rSaysT c s w k).2], H) := by
  have h1 := fun H => c80 (ext := ext) (H := H) s c.pulses w k hw hc (by omega) hn
  have h2 := fun H => c80 (ext := ext) (H := H) s c.pulses w (k + 1) hw hc (by omega) hn
  have h5 := w64_inc (n := s.ticks.length) hk (by omega)
  have h3 := fun H d => c82 (ext := ext) (H := H) d c.circLo c.circHi c.pulses hp'
  rw [cl_32 rfl, B32]
  rcases hw with rfl | rfl
  · simp only [nat_0] at h1 h2 ⊢
    simp (maxSteps := 4000000) only [↓r32_2,  go_sem, ↓reduceIte, Nat.reduceMul, Int.reduceLT, Int.reduceNeg, Int.reduceEq, Int.reduceLE, Int.reduceAdd, Int.reduceSub, Nat.reduceEqDiff, Nat.reduceLeDiff, Nat.reduceLT, Nat.reduceAdd, reduceCtorEq, Config.encC_all, Config.enc_0, Config.enc_1, Config.enc_10, Config.enc_11, Config.enc_12, Config.enc_13, Config.enc_2, Config.enc_3, Config.enc_4, Config.enc_5, Config.enc_6, Config.enc_7, Config.enc_8, Config.enc_9, Config.enc_all, Config.enc_len, RScript.encC_all, RScript.enc_0, RScript.enc_1, RScript.enc_2, RScript.enc_3, RScript.enc_4, RScript.enc_5, RScript.enc_6, RScript.enc_7, RScript.enc_8, RScript.enc_all, RScript.enc_len, RScript.subC_3_2, RScript.subC_5_2, RScript.sub_3_2, RScript.sub_5_2, List.getElem?_map, Option.map_some, List.length_map, map_clC, map_nmC, ei64_0, eu8_0, eL_0, n65536, h1, h2, h3, h5, c81]
    simp only [rSaysT, n16]
  · simp only [nat_0, nat_1] at h1 h2 ⊢
    simp (maxSteps := 4000000) only [↓r32_2,  go_sem, ↓reduceIte, Nat.reduceMul, Int.reduceLT, Int.reduceNeg, Int.reduceEq, Int.reduceLE, Int.reduceAdd, Int.reduceSub, Nat.reduceEqDiff, Nat.reduceLeDiff, Nat.reduceLT, Nat.reduceAdd, reduceCtorEq, Config.encC_all, Config.enc_0, Config.enc_1, Config.enc_10, Config.enc_11, Config.enc_12, Config.enc_13, Config.enc_2, Config.enc_3, Config.enc_4, Config.enc_5, Config.enc_6, Config.enc_7, Config.enc_8, Config.enc_9, Config.enc_all, Config.enc_len, RScript.encC_all, RScript.enc_0, RScript.enc_1, RScript.enc_2, RScript.enc_3, RScript.enc_4, RScript.enc_5, RScript.enc_6, RScript.enc_7, RScript.enc_8, RScript.enc_all, RScript.enc_len, RScript.subC_3_2, RScript.subC_5_2, RScript.sub_3_2, RScript.sub_5_2, List.getElem?_map, Option.map_some, List.length_map, map_clC, map_nmC, ei64_0, eu8_0, eL_0, n65536, h1, h2, h3, h5, c81]
    simp only [rSaysT, n16]

end
end Go.Ab
namespace Go.Ab
section
variable {ext : Callee}
def sayP (c : Config) (s : Script) (i k : Nat) (y : Tick) : Int × Int := if i = 2 then refRadar c (w64 (y.v + y.rad)) else rSaysT c (refS s) i k
/-- What the plain law has to say. -/
structure Law8 (c : Config) (t : Track) (s : Script) : Prop where
  pulses : ¬ c.pulses = 0
  circ : ∀ w, w = 0 ∨ w = 1 → ¬ s.circ w = 0
  between : ∀ (k : Nat) (y : Tick) (i : Nat), s.ticks[k]? = some y → i = 0 ∨ i = 1 ∨ i = 2 → fitR (refTick y) (prevOf (refS s).ticks k) i = true → wrongR c (refTick y) i = false → (sayP c s i k y).1 ≤ y.v ∧ y.v ≤ (sayP c s i k y).2
theorem refS_get {s : Script} {k : Nat} {y : Tick} (h : s.ticks[k]? = some y) : (refS s).ticks[k]? = some (refTick y) := by
  simp [refS, h]
theorem refS_len (s : Script) : (refS s).ticks.length = s.ticks.length := by simp [refS]
end
end Go.Ab
