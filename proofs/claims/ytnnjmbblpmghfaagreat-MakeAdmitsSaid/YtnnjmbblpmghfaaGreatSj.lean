/-
  What functions of the program come to.
  Conditions: none.
-/
import Derived.Test.YtnnjmbblpmghfaaGreatSi
set_option linter.unusedSimpArgs false
set_option linter.unusedVariables false
namespace Go.Ab
section
variable {ext : Callee}
def nextOf (t : Track) (l : List Int) : List Int := match t.segments[(l.getLastD 0).toNat]? with
  | some s => s.next
  | none => []
def wyGo (t : Track) : Nat → Int → List Int → Int × List Int
  | 0, d, l => (d, l)
  | n + 1, d, l => if (l.length : Int) < 60 then (if (nextOf t l).length = 0 then (d, l) else wyGo t n (rnd d) (l ++ [(nextOf t l).getD (rto d (nextOf t l).length).toNat 0])) else (d, l)
/-- Where the ways lead is on the track. -/
def NextIn (t : Track) : Prop := ∀ s ∈ t.segments, InT t s.next
theorem InT.app {t : Track} {l : List Int} {x : Int} (h : InT t l) (hx : ∃ n : Nat, x = n ∧ n < t.segments.length) : InT t (l ++ [x]) := by
  intro y hy
  rcases List.mem_append.1 hy with hy | hy
  · exact h y hy
  · simp only [List.mem_singleton] at hy; rw [hy]; exact hx
theorem last_get {l : List Int} (h : l ≠ []) : l[l.length - 1]? = some (l.getLastD 0) := by
  cases l with
  | nil => exact (h rfl).elim
  | cons x r =>
    rw [← List.getLast?_eq_getElem?]
    simp [List.getLastD_eq_getLast?, List.getLast?_cons]
theorem last_in {t : Track} {l : List Int} (hin : InT t l) (h : l ≠ []) : ∃ (n : Nat) (s : Segment), l.getLastD 0 = n ∧ t.segments[n]? = some s ∧ nextOf t l = s.next ∧ s ∈ t.segments := by
  obtain ⟨n, hn, hlt⟩ := hin (l.getLastD 0) (List.mem_of_getElem? (last_get h))
  obtain ⟨s, hs⟩ := get_ex hlt
  refine ⟨n, s, hn, hs, ?_, List.mem_of_getElem? hs⟩
  unfold nextOf; rw [hn, Int.toNat_natCast, hs]
theorem MKr_0 (dp : C) (m : Maker) (x : C) : ((MK dp m).set 17 x)[0]? = some dp := rfl
section
variable {H : Heap} {i j : Nat}
set_option maxHeartbeats 16000000 in
set_option maxRecDepth 20000 in
theorem l47_0 (hT : Two H i j) (m : Maker) (hx : NextIn m.t) (hs : ∀ s ∈ m.t.segments, s.next.length < 2 ^ 63) : ∀ (n : Nat) (d : Int) (l : List Int), l ≠ [] → InT m.t l → 60 ≤ l.length + n → l.length ≤ 60 →
    runL tab ext k47_0 ⟨(upd und 0 (.c (.ptr j 0))), mset (hp H []) i j d (MK (.ptr i 0) { m with route := l })⟩ =
    some (.exit 0, ⟨(upd und 0 (.c (.ptr j 0))), mset (hp H []) i j (wyGo m.t n d l).1 (MK (.ptr i 0) { m with route := (wyGo m.t n d l).2 })⟩)
  | 0, d, l, hne, hin, h1, h2 => by
    have e1 := fun F d cs => mset_j (hT.hp F) (d := d) (cs := cs)
    have e2 := fun F d cs => mset_i (hT.hp F) (d := d) (cs := cs)
    have e3 := fun F d cs cs' => mset_setj (H := hp H F) (i := i) (j := j) (d := d) (cs := cs) (cs' := cs')
    have e4 := fun F d d' cs => mset_seti (hT.hp F) (d := d) (d' := d') (cs := cs)
    have e5 := fun F d cs => mset_hp hT (d := d) (cs := cs) (F := F)
    have e6 := fun F d cs k => mset_get hT (d := d) (cs := cs) (F := F) (k := k)
    have e7 := fun F d cs k b => mset_put hT (d := d) (cs := cs) (F := F) (k := k) (b := b)
    have e8 := fun F d cs b => mset_add hT (d := d) (cs := cs) (F := F) (b := b)
    have e9 := fun F d cs => mset_plen (H := H) (i := i) (j := j) (d := d) (cs := cs) (F := F)
    have e10 := fun F d cs => mset_take0 hT (d := d) (cs := cs) (F := F)
    have e11 := fun F d cs k => mset_take hT (d := d) (cs := cs) (F := F) (k := k)
    have e12 := fun d cs => mset_len (H := H) (i := i) (j := j) (d := d) (cs := cs)
    have g48 := fun F d cs n => c48 (ext := ext) (H := mset (hp H F) i j d cs) (i := i) d n (mset_i (hT.hp F))
    have g99 := fun F d cs n => c99 (ext := ext) (H := mset (hp H F) i j d cs) (i := i) d n (mset_i (hT.hp F))
    have hc := ownCl_d (sz := 1) (f := ei64) hne
    have h3 : ((l.length : Int) < 60) = False := by simp; omega
    rw [s47_0, b47_0]
    simp (maxSteps := 4000000) only [↓r47_0, ↓r47_2, ↓r47_4, ↓r47_5, ↓r47_6,  go_sem, ↓reduceIte, Nat.reduceMul, Int.reduceLT, Int.reduceNeg, Int.reduceEq, Int.reduceLE, Int.reduceAdd, Int.reduceSub, Nat.reduceEqDiff, Nat.reduceLeDiff, Nat.reduceLT, Nat.reduceAdd, reduceCtorEq, List.getElem?_map, Option.map_some, List.length_map, map_clC, map_nmC, ei64_0, eu8_0, eL_0, e1, e2, e3, e4, e5, e6, e7, e8, e9, e10, e11, e12, g48, g99, clC_m, hc, h3]
    simp only [kst, wyGo]
  | n + 1, d, l, hne, hin, h1, h2 => by
    have e1 := fun F d cs => mset_j (hT.hp F) (d := d) (cs := cs)
    have e2 := fun F d cs => mset_i (hT.hp F) (d := d) (cs := cs)
    have e3 := fun F d cs cs' => mset_setj (H := hp H F) (i := i) (j := j) (d := d) (cs := cs) (cs' := cs')
    have e4 := fun F d d' cs => mset_seti (hT.hp F) (d := d) (d' := d') (cs := cs)
    have e5 := fun F d cs => mset_hp hT (d := d) (cs := cs) (F := F)
    have e6 := fun F d cs k => mset_get hT (d := d) (cs := cs) (F := F) (k := k)
    have e7 := fun F d cs k b => mset_put hT (d := d) (cs := cs) (F := F) (k := k) (b := b)
    have e8 := fun F d cs b => mset_add hT (d := d) (cs := cs) (F := F) (b := b)
    have e9 := fun F d cs => mset_plen (H := H) (i := i) (j := j) (d := d) (cs := cs) (F := F)
    have e10 := fun F d cs => mset_take0 hT (d := d) (cs := cs) (F := F)
    have e11 := fun F d cs k => mset_take hT (d := d) (cs := cs) (F := F) (k := k)
    have e12 := fun d cs => mset_len (H := H) (i := i) (j := j) (d := d) (cs := cs)
    have g48 := fun F d cs n => c48 (ext := ext) (H := mset (hp H F) i j d cs) (i := i) d n (mset_i (hT.hp F))
    have g99 := fun F d cs n => c99 (ext := ext) (H := mset (hp H F) i j d cs) (i := i) d n (mset_i (hT.hp F))
    have hc := ownCl_d (sz := 1) (f := ei64) hne
    rw [s47_0, b47_0]
    by_cases h3 : (l.length : Int) < 60
    · obtain ⟨a, s, ha, hsg, hnx, hmem⟩ := last_in hin hne
      have hpos : 0 < l.length := List.length_pos_iff.2 hne
      have h4 : w64 ((l.length : Int) - 1) = ((l.length - 1 : Nat) : Int) := by
        rw [w64_fix (by omega) (by omega)]; omega
      have h5 := last_get hne
      rw [ha] at h5
      by_cases h6 : s.next.length = 0
      · have h7 : ((s.next.length : Int) = 0) = True := by simp [h6]
        simp (maxSteps := 4000000) only [↓r47_0, ↓r47_2, ↓r47_4, ↓r47_5, ↓r47_6,  go_sem, ↓reduceIte, Nat.reduceMul, Int.reduceLT, Int.reduceNeg, Int.reduceEq, Int.reduceLE, Int.reduceAdd, Int.reduceSub, Nat.reduceEqDiff, Nat.reduceLeDiff, Nat.reduceLT, Nat.reduceAdd, reduceCtorEq, Segment.enc, Segment.encC_all, Segment.enc_0, Segment.enc_1, Segment.enc_2, Segment.enc_all, Segment.enc_len, List.getElem?_map, Option.map_some, List.length_map, map_clC, map_nmC, ei64_0, eu8_0, eL_0, e1, e2, e3, e4, e5, e6, e7, e8, e9, e10, e11, e12, g48, g99, clC_m, hc, h3, h4, h5, hsg, h7]
        simp only [kst, wyGo, h3, if_true, hnx, h6]
      · have h7 : ((s.next.length : Int) = 0) = False := by simp; exact fun e => h6 (by simp [e])
        have hb := hs s hmem
        obtain ⟨q1, q2⟩ := rto_lt d (n := (s.next.length : Int)) (by omega)
        obtain ⟨q, hq⟩ : ∃ q : Nat, rto d (s.next.length : Int) = q := ⟨(rto d (s.next.length : Int)).toNat, by omega⟩
        have hql : q < s.next.length := by omega
        obtain ⟨z, hz⟩ := get_ex hql
        have hin2 : InT m.t (l ++ [z]) := hin.app (hx s hmem z (List.mem_of_getElem? hz))
        have ih := l47_0 hT m hx hs n (rnd d) (l ++ [z]) (by simp) hin2 (by simp; omega) (by simp; omega)
        have h8 : ((l.length + 1) * 8 ≤ 140737488355328) = True := by simp; omega
        have hap := fun e H d bytes x (l : List Int) (z : Int) => app_own1 (e := e) (H := H) (d := d) (en := 3) (sz := 1) (bytes := bytes) (x := x) (f := ei64) (l := l) (a := z) (z := [.i .i64 z]) rfl
        simp (maxSteps := 4000000) only [↓r47_0, ↓r47_2, ↓r47_4, ↓r47_5, ↓r47_6,  go_sem, ↓reduceIte, Nat.reduceMul, Int.reduceLT, Int.reduceNeg, Int.reduceEq, Int.reduceLE, Int.reduceAdd, Int.reduceSub, Nat.reduceEqDiff, Nat.reduceLeDiff, Nat.reduceLT, Nat.reduceAdd, reduceCtorEq, Segment.enc, Segment.encC_all, Segment.enc_0, Segment.enc_1, Segment.enc_2, Segment.enc_all, Segment.enc_len, List.getElem?_map, Option.map_some, List.length_map, map_clC, map_nmC, ei64_0, eu8_0, eL_0, e1, e2, e3, e4, e5, e6, e7, e8, e9, e10, e11, e12, g48, g99, clC_m, hc, h3, h4, h5, hsg, h7, h8, hq, hz, ih, step_ldt, ldtC_ownL, step_stt, sttC_ownL, hap, chop_one, List.set_set, List.length_set, MKr_0]
        have h9 : (nextOf m.t l).getD (rto d (nextOf m.t l).length).toNat 0 = z := by
          rw [hnx, hq, Int.toNat_natCast, List.getD_eq_getElem?_getD, hz]; rfl
        simp only [kst, wyGo, h3, if_true, hnx, h6, if_false]
        rw [hnx] at h9
        rw [h9]
    · simp (maxSteps := 4000000) only [↓r47_0, ↓r47_2, ↓r47_4, ↓r47_5, ↓r47_6,  go_sem, ↓reduceIte, Nat.reduceMul, Int.reduceLT, Int.reduceNeg, Int.reduceEq, Int.reduceLE, Int.reduceAdd, Int.reduceSub, Nat.reduceEqDiff, Nat.reduceLeDiff, Nat.reduceLT, Nat.reduceAdd, reduceCtorEq, Segment.enc, Segment.encC_all, Segment.enc_0, Segment.enc_1, Segment.enc_2, Segment.enc_all, Segment.enc_len, List.getElem?_map, Option.map_some, List.length_map, map_clC, map_nmC, ei64_0, eu8_0, eL_0, e1, e2, e3, e4, e5, e6, e7, e8, e9, e10, e11, e12, g48, g99, clC_m, hc, h3]
      simp only [kst, wyGo, h3, if_false]
end

end
end Go.Ab
namespace Go.Ab
section
variable {ext : Callee}
theorem wyGo_in {t : Track} (hx : NextIn t) : ∀ (n : Nat) (d : Int) (l : List Int), l ≠ [] → InT t l → l.length ≤ 60 → (wyGo t n d l).2 ≠ [] ∧ InT t (wyGo t n d l).2 ∧ (wyGo t n d l).2.length ≤ 60
  | 0, d, l, h1, h2, h3 => ⟨h1, h2, h3⟩
  | n + 1, d, l, h1, h2, h3 => by
    simp only [wyGo]
    by_cases q : (l.length : Int) < 60
    · rw [if_pos q]
      obtain ⟨a, s, ha, hsg, hnx, hmem⟩ := last_in h2 h1
      rw [hnx]
      by_cases q2 : s.next.length = 0
      · rw [if_pos q2]; exact ⟨h1, h2, h3⟩
      · rw [if_neg q2]
        obtain ⟨q3, q4⟩ := rto_lt d (n := (s.next.length : Int)) (by omega)
        obtain ⟨z, hz⟩ := get_ex (l := s.next) (n := (rto d (s.next.length : Int)).toNat) (by omega)
        have hg : s.next.getD (rto d (s.next.length : Int)).toNat 0 = z := by rw [List.getD_eq_getElem?_getD, hz]; rfl
        rw [hg]
        exact wyGo_in hx n _ _ (by simp) (h2.app (hx s hmem z (List.mem_of_getElem? hz))) (by simp; omega)
    · rw [if_neg q]; exact ⟨h1, h2, h3⟩
def wayV (d : Int) (m : Maker) : Int × Maker :=
  (rnd (wyGo m.t 60 (rnd d) [rto d m.t.segments.length]).1,
   { m with
     route := (wyGo m.t 60 (rnd d) [rto d m.t.segments.length]).2
     length := startGo m.t 0 (wyGo m.t 60 (rnd d) [rto d m.t.segments.length]).2
     start := rto (wyGo m.t 60 (rnd d) [rto d m.t.segments.length]).1 (if 1073741824 < w64 (startGo m.t 0 (wyGo m.t 60 (rnd d) [rto d m.t.segments.length]).2 + 1) then 1073741824 else w64 (startGo m.t 0 (wyGo m.t 60 (rnd d) [rto d m.t.segments.length]).2 + 1))
     at_ := rto (wyGo m.t 60 (rnd d) [rto d m.t.segments.length]).1 (if 1073741824 < w64 (startGo m.t 0 (wyGo m.t 60 (rnd d) [rto d m.t.segments.length]).2 + 1) then 1073741824 else w64 (startGo m.t 0 (wyGo m.t 60 (rnd d) [rto d m.t.segments.length]).2 + 1)) })
section
variable {H : Heap} {i j : Nat}
theorem way_in {t : Track} (hx : NextIn t) (h1 : 0 < t.segments.length) (d d' : Int) : (wyGo t 60 d' [rto d t.segments.length]).2 ≠ [] ∧ InT t (wyGo t 60 d' [rto d t.segments.length]).2 ∧ (wyGo t 60 d' [rto d t.segments.length]).2.length ≤ 60 := by
  obtain ⟨q1, q2⟩ := rto_lt d (n := (t.segments.length : Int)) (by omega)
  refine wyGo_in hx 60 d' _ (by simp) ?_ (by simp)
  intro x hx'
  simp only [List.mem_singleton] at hx'
  exact ⟨(rto d t.segments.length).toNat, by omega, by omega⟩
set_option maxHeartbeats 16000000 in
set_option maxRecDepth 20000 in
theorem c47 (hT : Two H i j) (d : Int) (m : Maker) (hx : NextIn m.t) (h1 : 0 < m.t.segments.length) (hs : ∀ s ∈ m.t.segments, s.next.length < 2 ^ 63) : callL tab ext 47 [.c (.ptr j 0)] (mset H i j d (MK (.ptr i 0) m)) = some (.tup [], mset H i j (wayV d m).1 (MK (.ptr i 0) (wayV d m).2)) := by
  have e1 := fun F d cs => mset_j (hT.hp F) (d := d) (cs := cs)
  have e2 := fun F d cs => mset_i (hT.hp F) (d := d) (cs := cs)
  have e3 := fun F d cs cs' => mset_setj (H := hp H F) (i := i) (j := j) (d := d) (cs := cs) (cs' := cs')
  have e4 := fun F d d' cs => mset_seti (hT.hp F) (d := d) (d' := d') (cs := cs)
  have e5 := fun F d cs => mset_hp hT (d := d) (cs := cs) (F := F)
  have e6 := fun F d cs k => mset_get hT (d := d) (cs := cs) (F := F) (k := k)
  have e7 := fun F d cs k b => mset_put hT (d := d) (cs := cs) (F := F) (k := k) (b := b)
  have e8 := fun F d cs b => mset_add hT (d := d) (cs := cs) (F := F) (b := b)
  have e9 := fun F d cs => mset_plen (H := H) (i := i) (j := j) (d := d) (cs := cs) (F := F)
  have e10 := fun F d cs => mset_take0 hT (d := d) (cs := cs) (F := F)
  have e11 := fun F d cs k => mset_take hT (d := d) (cs := cs) (F := F) (k := k)
  have e12 := fun d cs => mset_len (H := H) (i := i) (j := j) (d := d) (cs := cs)
  have g48 := fun F d cs n => c48 (ext := ext) (H := mset (hp H F) i j d cs) (i := i) d n (mset_i (hT.hp F))
  have g99 := fun F d cs n => c99 (ext := ext) (H := mset (hp H F) i j d cs) (i := i) d n (mset_i (hT.hp F))
  obtain ⟨q1, q2⟩ := rto_lt d (n := (m.t.segments.length : Int)) (by omega)
  obtain ⟨w1, w2, w3⟩ := way_in hx h1 d (rnd d)
  have hl := l47_0 (ext := ext) hT m hx hs 60 (rnd d) [rto d m.t.segments.length] (by simp) (by
    intro x hx'
    simp only [List.mem_singleton] at hx'
    exact ⟨(rto d m.t.segments.length).toNat, by omega, by omega⟩) (by simp) (by simp)
  unfold wayV
  generalize wyGo m.t 60 (rnd d) [rto d m.t.segments.length] = W at *
  obtain ⟨d2, l⟩ := W
  simp only at w1 w2 w3 hl ⊢
  have hc := ownCl_d (sz := 1) (f := ei64) w1
  have g97 := fun H => c97 (ext := ext) (H := H) m.t l l.length (by rw [List.take_length]; exact w2) (by omega) (Nat.le_refl _)
  simp only [List.take_length] at g97
  have e0 : C.own 3 1 [[D.i .i64 (rto d m.t.segments.length)]] = ownL 3 1 ei64 [rto d m.t.segments.length] := rfl
  rw [cl_47 rfl, B47]
  simp (maxSteps := 4000000) only [↓r47_0, ↓r47_2, ↓r47_4, ↓r47_5, ↓r47_6,  go_sem, ↓reduceIte, Nat.reduceMul, Int.reduceLT, Int.reduceNeg, Int.reduceEq, Int.reduceLE, Int.reduceAdd, Int.reduceSub, Nat.reduceEqDiff, Nat.reduceLeDiff, Nat.reduceLT, Nat.reduceAdd, reduceCtorEq, Track.encC_all, Track.enc_0, Track.enc_1, Track.enc_all, Track.enc_len, List.getElem?_map, Option.map_some, List.length_map, map_clC, map_nmC, ei64_0, eu8_0, eL_0, e1, e2, e3, e4, e5, e6, e7, e8, e9, e10, e11, e12, g48, g99, clC_m, hc, hl, g97, e0, step_stt, sttC_ownL, chop_one]
  rfl
end

end
end Go.Ab
