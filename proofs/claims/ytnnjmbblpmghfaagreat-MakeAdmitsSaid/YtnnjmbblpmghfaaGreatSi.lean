/-
  What functions of the program come to.
  Conditions: none.
-/
import Derived.Test.YtnnjmbblpmghfaaGreatSh
set_option linter.unusedSimpArgs false
set_option linter.unusedVariables false
namespace Go.Ab
section
variable {ext : Callee}
def rdHit (m : Maker) (to start n : Int) (g : Group) : Bool :=
  if g.segment = n then (if (if to < m.at_ then to else m.at_) < w64 (start + g.offset) then decide (w64 (start + g.offset) ≤ (if to > m.at_ then to else m.at_)) else false) else false
def rdGrp (m : Maker) (to k : Int) (ix : Nat) (n start : Int) : Int → List Group → Int × Option Read
  | d, [] => (d, none)
  | d, g :: r => if rdHit m to start n g = true then (if rto d 5 = 0 then rdGrp m to k ix n start (rnd d) r else (rnd d, some ⟨k, ix, g.id, w64 (start + g.offset)⟩)) else rdGrp m to k ix n start d r
def rdWay (m : Maker) (to k : Int) : Nat → Int → Int → List Int → Int × Option Read
  | _, _, d, [] => (d, none)
  | ix, start, d, n :: r => match (rdGrp m to k ix n start d m.t.groups).2 with
    | some x => ((rdGrp m to k ix n start d m.t.groups).1, some x)
    | none => rdWay m to k (ix + 1) (w64 (start + segLen m.t n)) (rdGrp m to k ix n start d m.t.groups).1 r
section
variable {H : Heap} {i j : Nat}
theorem two_bd (h : Two H i j) : (j + 1 ≤ pid H 0) = True := by
  have := h.le; simp [pid]; omega
set_option maxHeartbeats 16000000 in
set_option maxRecDepth 20000 in
theorem l101_1 (hT : Two H i j) (m : Maker) (k to start n : Int) (ix : Nat) (hr : m.reads.length ≤ 4096) (hg : m.t.groups.length < 2 ^ 63) : ∀ (r : List Group) (a : Nat) (d : Int), m.t.groups.drop a = r →
    runL tab ext k101_1 ⟨(upd (upd (upd (upd (upd (upd (upd (upd (upd (upd (upd (upd und 29 (.I a)) 28 (.I m.t.groups.length)) 27 (VL 5 Group.enc m.t.groups)) 18 (.I ix)) 17 (.I m.route.length)) 16 (VL 1 ei64 m.route)) 8 (.I n)) 7 (.I ix)) 6 (.I start)) 2 (.I to)) 1 (.I k)) 0 (.c (.ptr j 0))), mset (hp H []) i j d (MK (.ptr i 0) m)⟩ =
    (match (rdGrp m to k ix n start d r).2 with
      | none => some (.exit 2, ⟨(upd (upd (upd (upd (upd (upd (upd (upd und 18 (.I ix)) 17 (.I m.route.length)) 16 (VL 1 ei64 m.route)) 8 (.I n)) 6 (.I start)) 2 (.I to)) 1 (.I k)) 0 (.c (.ptr j 0))), mset (hp H []) i j (rdGrp m to k ix n start d r).1 (MK (.ptr i 0) m)⟩)
      | some x => some (.exit 0, ⟨und, mset (hp H []) i j (rdGrp m to k ix n start d r).1 (MK (.ptr i 0) { m with reads := m.reads ++ [x] })⟩))
  | [], a, d, hs => by
    have e1 := fun F d cs => mset_j (hT.hp F) (d := d) (cs := cs)
    have e2 := fun F d cs => mset_i (hT.hp F) (d := d) (cs := cs)
    have e3 := fun F d cs cs' => mset_setj (H := hp H F) (i := i) (j := j) (d := d) (cs := cs) (cs' := cs')
    have e4 := fun F d d' cs => mset_seti (hT.hp F) (d := d) (d' := d') (cs := cs)
    have e5 := fun F d cs => mset_hp hT (d := d) (cs := cs) (F := F)
    have e6 := fun F d cs k => mset_get hT (d := d) (cs := cs) (F := F) (k := k)
    have e7 := fun F d cs k b => mset_put hT (d := d) (cs := cs) (F := F) (k := k) (b := b)
    have e8 := fun F d cs b => mset_add hT (d := d) (cs := cs) (F := F) (b := b)
    have e9 := fun F d cs => mset_plen (H := H) (i := i) (j := j) (d := d) (cs := cs) (F := F)
    have e10 := fun F d cs => mset_take0 hT (d := d) (cs := cs) (F := F)
    have e11 := fun F d cs k => mset_take hT (d := d) (cs := cs) (F := F) (k := k)
    have e12 := fun d cs => mset_len (H := H) (i := i) (j := j) (d := d) (cs := cs)
    have g48 := fun F d cs n => c48 (ext := ext) (H := mset (hp H F) i j d cs) (i := i) d n (mset_i (hT.hp F))
    have g99 := fun F d cs n => c99 (ext := ext) (H := mset (hp H F) i j d cs) (i := i) d n (mset_i (hT.hp F))
    have hb := two_bd hT
    have h0 := dr_end hs
    rw [s101_1, b101_1]
    simp (maxSteps := 4000000) -implicitDefEqProofs only [↓r101_9,  go_sem, ↓reduceIte, Nat.reduceMul, Int.reduceLT, Int.reduceNeg, Int.reduceEq, Int.reduceLE, Int.reduceAdd, Int.reduceSub, Nat.reduceEqDiff, Nat.reduceLeDiff, Nat.reduceLT, Nat.reduceAdd, reduceCtorEq, Group.enc, Group.encC_all, Group.enc_0, Group.enc_1, Group.enc_2, Group.enc_3, Group.enc_4, Group.enc_all, Group.enc_len, List.getElem?_map, Option.map_some, List.length_map, map_clC, map_nmC, ei64_0, eu8_0, eL_0, h0, e1, e2, e3, e4, e5, e6, e7, e8, e9, e10, e11, e12, g48, g99, hb]
    simp only [kst, rdGrp]
  | g :: r, a, d, hs => by
    have e1 := fun F d cs => mset_j (hT.hp F) (d := d) (cs := cs)
    have e2 := fun F d cs => mset_i (hT.hp F) (d := d) (cs := cs)
    have e3 := fun F d cs cs' => mset_setj (H := hp H F) (i := i) (j := j) (d := d) (cs := cs) (cs' := cs')
    have e4 := fun F d d' cs => mset_seti (hT.hp F) (d := d) (d' := d') (cs := cs)
    have e5 := fun F d cs => mset_hp hT (d := d) (cs := cs) (F := F)
    have e6 := fun F d cs k => mset_get hT (d := d) (cs := cs) (F := F) (k := k)
    have e7 := fun F d cs k b => mset_put hT (d := d) (cs := cs) (F := F) (k := k) (b := b)
    have e8 := fun F d cs b => mset_add hT (d := d) (cs := cs) (F := F) (b := b)
    have e9 := fun F d cs => mset_plen (H := H) (i := i) (j := j) (d := d) (cs := cs) (F := F)
    have e10 := fun F d cs => mset_take0 hT (d := d) (cs := cs) (F := F)
    have e11 := fun F d cs k => mset_take hT (d := d) (cs := cs) (F := F) (k := k)
    have e12 := fun d cs => mset_len (H := H) (i := i) (j := j) (d := d) (cs := cs)
    have g48 := fun F d cs n => c48 (ext := ext) (H := mset (hp H F) i j d cs) (i := i) d n (mset_i (hT.hp F))
    have g99 := fun F d cs n => c99 (ext := ext) (H := mset (hp H F) i j d cs) (i := i) d n (mset_i (hT.hp F))
    have hb := two_bd hT
    obtain ⟨h1, h2, h3⟩ := dr_cons hs
    have ih := fun d => l101_1 hT m k to start n ix hr hg r (a + 1) d h3
    have h4 := dr_lt h2
    have h5 := w64_inc h2 (by omega)
    have h6 : ((m.reads.length + 1) * 32 ≤ 140737488355328) = True := by simp; omega
    have hap := fun e H d bytes x (l : List Read) (c ix gr pt : Int) => app_own1 (e := e) (H := H) (d := d) (en := 137) (sz := 4) (bytes := bytes) (x := x) (f := Read.enc) (l := l) (a := ⟨c, ix, gr, pt⟩) (z := [.i .i64 c, .i .i64 ix, .i .i64 gr, .i .i64 pt]) rfl
    rw [s101_1, b101_1]
    by_cases q1 : g.segment = n
    · by_cases q2 : (if to < m.at_ then to else m.at_) < w64 (start + g.offset)
      · by_cases q3 : w64 (start + g.offset) ≤ (if to > m.at_ then to else m.at_)
        · have hh : rdHit m to start n g = true := by simp only [rdHit, q1, q2, q3, if_true, decide_true]
          by_cases q4 : rto d 5 = 0
          · simp (maxSteps := 4000000) -implicitDefEqProofs only [↓r101_9,  go_sem, ↓reduceIte, Nat.reduceMul, Int.reduceLT, Int.reduceNeg, Int.reduceEq, Int.reduceLE, Int.reduceAdd, Int.reduceSub, Nat.reduceEqDiff, Nat.reduceLeDiff, Nat.reduceLT, Nat.reduceAdd, reduceCtorEq, Group.enc, Group.encC_all, Group.enc_0, Group.enc_1, Group.enc_2, Group.enc_3, Group.enc_4, Group.enc_all, Group.enc_len, List.getElem?_map, Option.map_some, List.length_map, map_clC, map_nmC, ei64_0, eu8_0, eL_0, e1, e2, e3, e4, e5, e6, e7, e8, e9, e10, e11, e12, g48, g99, hb, h1, h4, h5, q1, q2, q3, q4, ih]
            simp only [kst, rdGrp, hh, q4, if_true]
          · simp (maxSteps := 4000000) -implicitDefEqProofs only [↓r101_9,  go_sem, ↓reduceIte, Nat.reduceMul, Int.reduceLT, Int.reduceNeg, Int.reduceEq, Int.reduceLE, Int.reduceAdd, Int.reduceSub, Nat.reduceEqDiff, Nat.reduceLeDiff, Nat.reduceLT, Nat.reduceAdd, reduceCtorEq, Group.enc, Group.encC_all, Group.enc_0, Group.enc_1, Group.enc_2, Group.enc_3, Group.enc_4, Group.enc_all, Group.enc_len, Read.enc, Read.encC_all, Read.enc_0, Read.enc_1, Read.enc_2, Read.enc_3, Read.enc_all, Read.enc_len, List.getElem?_map, Option.map_some, List.length_map, map_clC, map_nmC, ei64_0, eu8_0, eL_0, e1, e2, e3, e4, e5, e6, e7, e8, e9, e10, e11, e12, g48, g99, hb, h1, h4, h5, h6, q1, q2, q3, q4, step_ldt, ldtC_ownL, step_stt, sttC_ownL, hap, chop_one, List.set_set, List.length_set]
            simp only [kst, rdGrp, hh, q4, if_true, if_false]

        · have hh : rdHit m to start n g = false := by simp only [rdHit, q1, q2, q3, if_true, decide_false]
          simp (maxSteps := 4000000) -implicitDefEqProofs only [↓r101_9,  go_sem, ↓reduceIte, Nat.reduceMul, Int.reduceLT, Int.reduceNeg, Int.reduceEq, Int.reduceLE, Int.reduceAdd, Int.reduceSub, Nat.reduceEqDiff, Nat.reduceLeDiff, Nat.reduceLT, Nat.reduceAdd, reduceCtorEq, Group.enc, Group.encC_all, Group.enc_0, Group.enc_1, Group.enc_2, Group.enc_3, Group.enc_4, Group.enc_all, Group.enc_len, List.getElem?_map, Option.map_some, List.length_map, map_clC, map_nmC, ei64_0, eu8_0, eL_0, e1, e2, e3, e4, e5, e6, e7, e8, e9, e10, e11, e12, g48, g99, hb, h1, h4, h5, q1, q2, q3, ih]
          simp only [kst, rdGrp, hh, Bool.false_eq_true, if_false]
      · have hh : rdHit m to start n g = false := by simp only [rdHit, q1, q2, if_true, if_false]
        simp (maxSteps := 4000000) -implicitDefEqProofs only [↓r101_9,  go_sem, ↓reduceIte, Nat.reduceMul, Int.reduceLT, Int.reduceNeg, Int.reduceEq, Int.reduceLE, Int.reduceAdd, Int.reduceSub, Nat.reduceEqDiff, Nat.reduceLeDiff, Nat.reduceLT, Nat.reduceAdd, reduceCtorEq, Group.enc, Group.encC_all, Group.enc_0, Group.enc_1, Group.enc_2, Group.enc_3, Group.enc_4, Group.enc_all, Group.enc_len, List.getElem?_map, Option.map_some, List.length_map, map_clC, map_nmC, ei64_0, eu8_0, eL_0, e1, e2, e3, e4, e5, e6, e7, e8, e9, e10, e11, e12, g48, g99, hb, h1, h4, h5, q1, q2, ih]
        simp only [kst, rdGrp, hh, Bool.false_eq_true, if_false]
    · have hh : rdHit m to start n g = false := by simp only [rdHit, q1, if_false]
      simp (maxSteps := 4000000) -implicitDefEqProofs only [↓r101_9,  go_sem, ↓reduceIte, Nat.reduceMul, Int.reduceLT, Int.reduceNeg, Int.reduceEq, Int.reduceLE, Int.reduceAdd, Int.reduceSub, Nat.reduceEqDiff, Nat.reduceLeDiff, Nat.reduceLT, Nat.reduceAdd, reduceCtorEq, Group.enc, Group.encC_all, Group.enc_0, Group.enc_1, Group.enc_2, Group.enc_3, Group.enc_4, Group.enc_all, Group.enc_len, List.getElem?_map, Option.map_some, List.length_map, map_clC, map_nmC, ei64_0, eu8_0, eL_0, e1, e2, e3, e4, e5, e6, e7, e8, e9, e10, e11, e12, g48, g99, hb, h1, h4, h5, q1, ih]
      simp only [kst, rdGrp, hh, Bool.false_eq_true, if_false]
end

end
end Go.Ab
namespace Go.Ab
section
variable {ext : Callee}
section
variable {H : Heap} {i j : Nat}
theorem segLen_at {t : Track} {x : Int} {n : Nat} {s : Segment} (hx : x = n) (hs : t.segments[n]? = some s) : segLen t x = s.length := by
  subst hx; simp [segLen, hs]
set_option maxHeartbeats 16000000 in
set_option maxRecDepth 20000 in
theorem l101_0 (hT : Two H i j) (m : Maker) (k to : Int) (hr : m.reads.length ≤ 4096) (hg : m.t.groups.length < 2 ^ 63) (hn : m.route.length < 2 ^ 63) (hin : InT m.t m.route) : ∀ (r : List Int) (a : Nat) (start d : Int), m.route.drop a = r →
    runL tab ext k101_0 ⟨(upd (upd (upd (upd (upd (upd (upd und 18 (.I a)) 17 (.I m.route.length)) 16 (VL 1 ei64 m.route)) 6 (.I start)) 2 (.I to)) 1 (.I k)) 0 (.c (.ptr j 0))), mset (hp H []) i j d (MK (.ptr i 0) m)⟩ =
    some (.exit 0, ⟨und, mset (hp H []) i j (rdWay m to k a start d r).1 (MK (.ptr i 0) (match (rdWay m to k a start d r).2 with
      | none => m
      | some x => { m with reads := m.reads ++ [x] }))⟩)
  | [], a, start, d, hs => by
    have e1 := fun F d cs => mset_j (hT.hp F) (d := d) (cs := cs)
    have e2 := fun F d cs => mset_i (hT.hp F) (d := d) (cs := cs)
    have e3 := fun F d cs cs' => mset_setj (H := hp H F) (i := i) (j := j) (d := d) (cs := cs) (cs' := cs')
    have e4 := fun F d d' cs => mset_seti (hT.hp F) (d := d) (d' := d') (cs := cs)
    have e5 := fun F d cs => mset_hp hT (d := d) (cs := cs) (F := F)
    have e6 := fun F d cs k => mset_get hT (d := d) (cs := cs) (F := F) (k := k)
    have e7 := fun F d cs k b => mset_put hT (d := d) (cs := cs) (F := F) (k := k) (b := b)
    have e8 := fun F d cs b => mset_add hT (d := d) (cs := cs) (F := F) (b := b)
    have e9 := fun F d cs => mset_plen (H := H) (i := i) (j := j) (d := d) (cs := cs) (F := F)
    have e10 := fun F d cs => mset_take0 hT (d := d) (cs := cs) (F := F)
    have e11 := fun F d cs k => mset_take hT (d := d) (cs := cs) (F := F) (k := k)
    have e12 := fun d cs => mset_len (H := H) (i := i) (j := j) (d := d) (cs := cs)
    have g48 := fun F d cs n => c48 (ext := ext) (H := mset (hp H F) i j d cs) (i := i) d n (mset_i (hT.hp F))
    have g99 := fun F d cs n => c99 (ext := ext) (H := mset (hp H F) i j d cs) (i := i) d n (mset_i (hT.hp F))
    have hb := two_bd hT
    have h0 := dr_end hs
    rw [s101_0, b101_0]
    simp (maxSteps := 4000000) only [↓r101_9,  go_sem, ↓reduceIte, Nat.reduceMul, Int.reduceLT, Int.reduceNeg, Int.reduceEq, Int.reduceLE, Int.reduceAdd, Int.reduceSub, Nat.reduceEqDiff, Nat.reduceLeDiff, Nat.reduceLT, Nat.reduceAdd, reduceCtorEq, List.getElem?_map, Option.map_some, List.length_map, map_clC, map_nmC, ei64_0, eu8_0, eL_0, h0, e1, e2, e3, e4, e5, e6, e7, e8, e9, e10, e11, e12, g48, g99, hb]
    simp only [kst, rdWay]
  | x :: r, a, start, d, hs => by
    have e1 := fun F d cs => mset_j (hT.hp F) (d := d) (cs := cs)
    have e2 := fun F d cs => mset_i (hT.hp F) (d := d) (cs := cs)
    have e3 := fun F d cs cs' => mset_setj (H := hp H F) (i := i) (j := j) (d := d) (cs := cs) (cs' := cs')
    have e4 := fun F d d' cs => mset_seti (hT.hp F) (d := d) (d' := d') (cs := cs)
    have e5 := fun F d cs => mset_hp hT (d := d) (cs := cs) (F := F)
    have e6 := fun F d cs k => mset_get hT (d := d) (cs := cs) (F := F) (k := k)
    have e7 := fun F d cs k b => mset_put hT (d := d) (cs := cs) (F := F) (k := k) (b := b)
    have e8 := fun F d cs b => mset_add hT (d := d) (cs := cs) (F := F) (b := b)
    have e9 := fun F d cs => mset_plen (H := H) (i := i) (j := j) (d := d) (cs := cs) (F := F)
    have e10 := fun F d cs => mset_take0 hT (d := d) (cs := cs) (F := F)
    have e11 := fun F d cs k => mset_take hT (d := d) (cs := cs) (F := F) (k := k)
    have e12 := fun d cs => mset_len (H := H) (i := i) (j := j) (d := d) (cs := cs)
    have g48 := fun F d cs n => c48 (ext := ext) (H := mset (hp H F) i j d cs) (i := i) d n (mset_i (hT.hp F))
    have g99 := fun F d cs n => c99 (ext := ext) (H := mset (hp H F) i j d cs) (i := i) d n (mset_i (hT.hp F))
    have hb := two_bd hT
    obtain ⟨h1, h2, h3⟩ := dr_cons hs
    have ih := fun st d => l101_0 hT m k to hr hg hn hin r (a + 1) st d h3
    have h4 := dr_lt h2
    have h5 := w64_inc h2 hn
    obtain ⟨n, rfl, hlt⟩ := hin x (List.mem_of_getElem? h1)
    obtain ⟨s, hsg⟩ := get_ex hlt
    have h6 : segLen m.t n = s.length := segLen_at rfl hsg
    have hl := l101_1 (ext := ext) hT m k to start n a hr hg m.t.groups 0 d rfl
    simp only [nat_0] at hl
    rw [s101_0, b101_0]
    cases hc : (rdGrp m to k a n start d m.t.groups).2 with
    | none =>
      simp only [hc] at hl
      simp (maxSteps := 4000000) only [↓r101_9,  go_sem, ↓reduceIte, Nat.reduceMul, Int.reduceLT, Int.reduceNeg, Int.reduceEq, Int.reduceLE, Int.reduceAdd, Int.reduceSub, Nat.reduceEqDiff, Nat.reduceLeDiff, Nat.reduceLT, Nat.reduceAdd, reduceCtorEq, Segment.enc, Segment.encC_all, Segment.enc_0, Segment.enc_1, Segment.enc_2, Segment.enc_all, Segment.enc_len, List.getElem?_map, Option.map_some, List.length_map, map_clC, map_nmC, ei64_0, eu8_0, eL_0, e1, e2, e3, e4, e5, e6, e7, e8, e9, e10, e11, e12, g48, g99, hb, h1, h4, h5, hsg, hl, ih]
      simp only [kst, rdWay, hc, h6]
    | some z =>
      simp only [hc] at hl
      simp (maxSteps := 4000000) only [↓r101_9,  go_sem, ↓reduceIte, Nat.reduceMul, Int.reduceLT, Int.reduceNeg, Int.reduceEq, Int.reduceLE, Int.reduceAdd, Int.reduceSub, Nat.reduceEqDiff, Nat.reduceLeDiff, Nat.reduceLT, Nat.reduceAdd, reduceCtorEq, Segment.enc, Segment.encC_all, Segment.enc_0, Segment.enc_1, Segment.enc_2, Segment.enc_all, Segment.enc_len, List.getElem?_map, Option.map_some, List.length_map, map_clC, map_nmC, ei64_0, eu8_0, eL_0, e1, e2, e3, e4, e5, e6, e7, e8, e9, e10, e11, e12, g48, g99, hb, h1, h4, h5, hsg, hl]
      simp only [kst, rdWay, hc]
theorem clC_m {α : Type} {en sz : Nat} {f : α → List D} {l : List α} : (clC.match_1 (fun _ => C) (ownL en sz f l) (fun _ sz rows => C.d (D.l sz rows)) fun x => x) = ownCl sz f l := by cases l <;> rfl
theorem ownCl_d {α : Type} {sz : Nat} {f : α → List D} {l : List α} (h : l ≠ []) : ownCl sz f l = .d (.l sz (l.map f)) := by
  cases l with
  | nil => exact (h rfl).elim
  | cons x l => rfl
def readV (d : Int) (m : Maker) (k to : Int) : Int × Maker := ((rdWay m to k 0 0 d m.route).1, match (rdWay m to k 0 0 d m.route).2 with
  | none => m
  | some x => { m with reads := m.reads ++ [x] })
set_option maxHeartbeats 4000000 in
theorem c101 (hT : Two H i j) (d : Int) (m : Maker) (k to : Int) (hr : m.reads.length ≤ 4096) (hg : m.t.groups.length < 2 ^ 63) (hn : m.route.length < 2 ^ 63) (hin : InT m.t m.route) (hne : m.route ≠ []) : callL tab ext 101 [.c (.ptr j 0), .I k, .I to] (mset H i j d (MK (.ptr i 0) m)) = some (.tup [], mset H i j (readV d m k to).1 (MK (.ptr i 0) (readV d m k to).2)) := by
  have e1 := fun F d cs => mset_j (hT.hp F) (d := d) (cs := cs)
  have e2 := fun F d cs => mset_i (hT.hp F) (d := d) (cs := cs)
  have e3 := fun F d cs cs' => mset_setj (H := hp H F) (i := i) (j := j) (d := d) (cs := cs) (cs' := cs')
  have e4 := fun F d d' cs => mset_seti (hT.hp F) (d := d) (d' := d') (cs := cs)
  have e5 := fun F d cs => mset_hp hT (d := d) (cs := cs) (F := F)
  have e6 := fun F d cs k => mset_get hT (d := d) (cs := cs) (F := F) (k := k)
  have e7 := fun F d cs k b => mset_put hT (d := d) (cs := cs) (F := F) (k := k) (b := b)
  have e8 := fun F d cs b => mset_add hT (d := d) (cs := cs) (F := F) (b := b)
  have e9 := fun F d cs => mset_plen (H := H) (i := i) (j := j) (d := d) (cs := cs) (F := F)
  have e10 := fun F d cs => mset_take0 hT (d := d) (cs := cs) (F := F)
  have e11 := fun F d cs k => mset_take hT (d := d) (cs := cs) (F := F) (k := k)
  have e12 := fun d cs => mset_len (H := H) (i := i) (j := j) (d := d) (cs := cs)
  have g48 := fun F d cs n => c48 (ext := ext) (H := mset (hp H F) i j d cs) (i := i) d n (mset_i (hT.hp F))
  have g99 := fun F d cs n => c99 (ext := ext) (H := mset (hp H F) i j d cs) (i := i) d n (mset_i (hT.hp F))
  have hl := l101_0 (ext := ext) hT m k to hr hg hn hin m.route 0 0 d rfl
  simp only [nat_0] at hl
  rw [cl_101 rfl, B101]
  have hc := ownCl_d (sz := 1) (f := ei64) hne
  simp (maxSteps := 4000000) only [↓r101_9,  go_sem, ↓reduceIte, Nat.reduceMul, Int.reduceLT, Int.reduceNeg, Int.reduceEq, Int.reduceLE, Int.reduceAdd, Int.reduceSub, Nat.reduceEqDiff, Nat.reduceLeDiff, Nat.reduceLT, Nat.reduceAdd, reduceCtorEq, List.getElem?_map, Option.map_some, List.length_map, map_clC, map_nmC, ei64_0, eu8_0, eL_0, e1, e2, e3, e4, e5, e6, e7, e8, e9, e10, e11, e12, g48, g99, hl, clC_m, hc]
  simp only [readV]
  rfl
end

end
end Go.Ab
namespace Go.Ab
section
variable {ext : Callee}
def tkCmd (d v : Int) : Int × Bool := if v = 0 then (rnd d, decide (rto d 2 = 0)) else (d, true)
def tkY (d : Int) (m : Maker) (v : Int) : Tick := ⟨v, fun _ => 0, w64 (rto (rnd d) (w64 (w64 (2 * m.c.radBase) + 1)) - m.c.radBase), w64 (rto d (w64 (w64 (2 * m.c.accErr) + 1)) - m.c.accErr), fun _ => false, [], (tkCmd (rnd (rnd d)) v).2⟩
def tkD (d v : Int) : Int := (tkCmd (rnd (rnd d)) v).1
def tkF (k : Nat) (d : Int) (m : Maker) (y : Tick) : Int × Maker × Tick := if 0 < k then faultV d m y else (d, m, y)
def tkEnd (m : Maker) (v : Int) (y : Tick) : Maker :=
  { m with
    turned := fun w => if w = 1 then w64 (m.turned 1 + w64 (w64 (m.c.pulses * v) + y.slip 1)) else if w = 0 then w64 (m.turned 0 + w64 (w64 (m.c.pulses * v) + y.slip 0)) else m.turned w
    at_ := w64 (m.at_ + v)
    v := v
    ticks := m.ticks ++ [y] }
/-- What a cycle makes of the dice and the maker. -/
def tickV (d : Int) (m : Maker) (k : Nat) : Int × Maker :=
  let p := spB d m
  let v := spV p.2
  let q := tkF k (tkD p.1 v) p.2 (tkY p.1 p.2 v)
  let r := readV q.1 q.2.1 k (w64 (q.2.1.at_ + v))
  (r.1, tkEnd r.2 v q.2.2)
structure SameM (m m' : Maker) : Prop where
  c : m'.c = m.c
  t : m'.t = m.t
  route : m'.route = m.route
  start : m'.start = m.start
  v0 : m'.v0 = m.v0
  circ : m'.circ = m.circ
  phase : m'.phase = m.phase
  ticks : m'.ticks = m.ticks
  length : m'.length = m.length
  at_ : m'.at_ = m.at_
  v : m'.v = m.v
  turned : m'.turned = m.turned
theorem SameM.refl (m : Maker) : SameM m m := ⟨rfl, rfl, rfl, rfl, rfl, rfl, rfl, rfl, rfl, rfl, rfl, rfl⟩
theorem spB_same (d : Int) (m : Maker) : SameM m (spB d m).2 ∧ (spB d m).2.reads = m.reads ∧ (spB d m).2.calm = m.calm := by
  unfold spB spA
  by_cases h1 : rto d 20 = 0
  · simp only [h1, if_true]
    by_cases h2 : rto (rnd (rnd d)) 20 = 0
    · simp only [h2, if_true]; exact ⟨⟨rfl, rfl, rfl, rfl, rfl, rfl, rfl, rfl, rfl, rfl, rfl, rfl⟩, by first | trivial | exact ⟨rfl, rfl⟩⟩
    · simp only [h2, if_false]; exact ⟨⟨rfl, rfl, rfl, rfl, rfl, rfl, rfl, rfl, rfl, rfl, rfl, rfl⟩, by first | trivial | exact ⟨rfl, rfl⟩⟩
  · simp only [h1, if_false]
    by_cases h2 : rto (rnd d) 20 = 0
    · simp only [h2, if_true]; exact ⟨⟨rfl, rfl, rfl, rfl, rfl, rfl, rfl, rfl, rfl, rfl, rfl, rfl⟩, by first | trivial | exact ⟨rfl, rfl⟩⟩
    · simp only [h2, if_false]; exact ⟨⟨rfl, rfl, rfl, rfl, rfl, rfl, rfl, rfl, rfl, rfl, rfl, rfl⟩, by first | trivial | exact ⟨rfl, rfl⟩⟩
theorem faultV_same (d : Int) (m : Maker) (y : Tick) : SameM m (faultV d m y).2.1 ∧ (faultV d m y).2.1.reads = m.reads := by
  unfold faultV
  by_cases h1 : 0 < m.calm ∨ 3 < rto d 24
  · simp only [h1, if_true]; exact ⟨⟨rfl, rfl, rfl, rfl, rfl, rfl, rfl, rfl, rfl, rfl, rfl, rfl⟩, by first | trivial | rfl⟩
  · simp only [h1, if_false]
    by_cases h2 : rto d 24 = 0
    · simp only [h2, if_true]; exact ⟨⟨rfl, rfl, rfl, rfl, rfl, rfl, rfl, rfl, rfl, rfl, rfl, rfl⟩, by first | trivial | rfl⟩
    · simp only [h2, if_false]; exact ⟨⟨rfl, rfl, rfl, rfl, rfl, rfl, rfl, rfl, rfl, rfl, rfl, rfl⟩, by first | trivial | rfl⟩
theorem tkF_same (k : Nat) (d : Int) (m : Maker) (y : Tick) : SameM m (tkF k d m y).2.1 ∧ (tkF k d m y).2.1.reads = m.reads := by
  unfold tkF
  split
  · exact faultV_same d m y
  · exact ⟨SameM.refl m, rfl⟩
theorem readV_same (d : Int) (m : Maker) (k to : Int) : SameM m (readV d m k to).2 ∧ (readV d m k to).2.calm = m.calm := by
  unfold readV
  simp only
  split
  · exact ⟨SameM.refl m, rfl⟩
  · exact ⟨⟨rfl, rfl, rfl, rfl, rfl, rfl, rfl, rfl, rfl, rfl, rfl, rfl⟩, rfl⟩
/-- What a maker must be for a cycle. -/
structure MkOk (m : Maker) : Prop where
  acc : ¬ m.c.maxAccel = 0
  grp : m.t.groups.length < 2 ^ 63
  rlen : m.route.length < 2 ^ 63
  rin : InT m.t m.route
  rne : m.route ≠ []
theorem MkOk.of {m m' : Maker} (h : MkOk m) (s : SameM m m') : MkOk m' := ⟨by rw [s.c]; exact h.acc, by rw [s.t]; exact h.grp, by rw [s.route]; exact h.rlen, by rw [s.t, s.route]; exact h.rin, by rw [s.route]; exact h.rne⟩

end
end Go.Ab
