/-
  What functions of the program come to.
  Conditions: none.
-/
import Derived.Test.YtnnjmbblpmghfaaGreatS54a
import Derived.Test.YtnnjmbblpmghfaaGreatS54b
import Derived.Test.YtnnjmbblpmghfaaGreatS54c
import Derived.Test.YtnnjmbblpmghfaaGreatS54d
import Derived.Test.YtnnjmbblpmghfaaGreatPd
set_option linter.unusedSimpArgs false
set_option linter.unusedVariables false
namespace Go.Ab
section
variable {ext : Callee}
section
variable {H : Heap} {i j : Nat}
theorem c49 (hT : Two H i j) (d : Int) (m : Maker) (k : Nat) (ok : MkOk m) (hr : m.reads.length ≤ 4096) (ht : m.ticks.length ≤ 4096) : callL tab ext 49 [.c (.ptr j 0), .I k] (mset H i j d (MK (.ptr i 0) m)) = some (.tup [], mset H i j (tickV d m k).1 (MK (.ptr i 0) (tickV d m k).2)) := by
  cases k with
  | zero =>
    by_cases hv : spV (spB d m).2 = 0
    · exact c49a hT d m ok hr ht hv
    · exact c49b hT d m ok hr ht hv
  | succ k =>
    by_cases hv : spV (spB d m).2 = 0
    · exact c49c hT d m k ok hr ht hv
    · exact c49d hT d m k ok hr ht hv
end

end
end Go.Ab
namespace Go.Ab
section
variable {ext : Callee}
theorem tickV_ok (d : Int) (m : Maker) (k : Nat) (ok : MkOk m) : MkOk (tickV d m k).2 ∧ (tickV d m k).2.reads.length ≤ m.reads.length + 1 ∧ (tickV d m k).2.ticks.length = m.ticks.length + 1 := by
  unfold tickV
  simp only
  obtain ⟨s1, s2, s3⟩ := spB_same d m
  generalize spB d m = P at *
  obtain ⟨d1, m1⟩ := P
  simp only at s1 s2 s3 ⊢
  generalize spV m1 = v
  obtain ⟨f1, f2⟩ := tkF_same k (tkD d1 v) m1 (tkY d1 m1 v)
  generalize tkF k (tkD d1 v) m1 (tkY d1 m1 v) = Q at *
  obtain ⟨d2, m2, y⟩ := Q
  simp only at f1 f2 ⊢
  obtain ⟨r1, r2⟩ := readV_same d2 m2 k (w64 (m2.at_ + v))
  have r3 : (readV d2 m2 k (w64 (m2.at_ + v))).2.reads.length ≤ m2.reads.length + 1 := by
    unfold readV
    simp only
    split <;> simp
  generalize readV d2 m2 k (w64 (m2.at_ + v)) = R at *
  obtain ⟨d3, m3⟩ := R
  simp only at r1 r2 r3 ⊢
  have ok3 := ((ok.of s1).of f1).of r1
  refine ⟨⟨ok3.acc, ok3.grp, ok3.rlen, ok3.rin, ok3.rne⟩, ?_, ?_⟩
  · show m3.reads.length ≤ _
    rw [f2, s2] at r3; exact r3
  · show (m3.ticks ++ [y]).length = _
    rw [r1.ticks, f1.ticks, s1.ticks]; simp
theorem mset_lit {H : Heap} {b0 b1 b2 x y : Box} {d : Int} {cs : List C} : mset (hp H [b0, b1, b2, x, y]) (pid H 3) (pid H 4) d cs = hp H [b0, b1, b2, ⟨true, [U d]⟩, ⟨true, cs⟩] := by
  unfold mset
  rw [hp_set, hp_set]; rfl
theorem two_lit {H : Heap} {b0 b1 b2 x y : Box} : Two (hp H [b0, b1, b2, x, y]) (pid H 3) (pid H 4) := ⟨by simp [pid], by simp [hp, pid]⟩
section
variable {H : Heap}
set_option maxHeartbeats 16000000 in
set_option maxRecDepth 20000 in
theorem l14_1 (b0 b1 b2 : Box) (N : Nat) (hN : N ≤ 4096) : ∀ (n k : Nat) (d : Int) (m : Maker), k + n = N → MkOk m → m.reads.length ≤ k → m.ticks.length = k →
    runL tab ext k14_1 ⟨(upd (upd (upd (upd und 95 (.I k)) 94 (.I N)) 13 (.c (.ptr (pid H 4) 0))) 8 (.c (.ptr (pid H 2) 0))), hp H [b0, b1, b2, ⟨true, [U d]⟩, ⟨true, MK (.ptr (pid H 3) 0) m⟩]⟩ =
    some (.exit 2, ⟨(upd (upd und 13 (.c (.ptr (pid H 4) 0))) 8 (.c (.ptr (pid H 2) 0))), hp H [b0, b1, b2, ⟨true, [U (tkIt n k d m).1]⟩, ⟨true, MK (.ptr (pid H 3) 0) (tkIt n k d m).2⟩]⟩)
  | 0, k, d, m, hk, _, _, _ => by
    have h0 : ((k : Int) < (N : Int)) = False := by simp; omega
    rw [s14_1, b14_1]
    simp (maxSteps := 4000000) -implicitDefEqProofs only [↓r14_10, ↓r14_11, ↓r14_12,  go_sem, ↓reduceIte, Nat.reduceMul, Int.reduceLT, Int.reduceNeg, Int.reduceEq, Int.reduceLE, Int.reduceAdd, Int.reduceSub, Nat.reduceEqDiff, Nat.reduceLeDiff, Nat.reduceLT, Nat.reduceAdd, reduceCtorEq, List.getElem?_map, Option.map_some, List.length_map, map_clC, map_nmC, ei64_0, eu8_0, eL_0, h0]
    simp only [kst, tkIt]
  | n + 1, k, d, m, hk, ok, hr, ht => by
    have h0 : ((k : Int) < (N : Int)) = True := by simp; omega
    have h5 : w64 ((k : Int) + 1) = ((k + 1 : Nat) : Int) := by rw [w64_fix (by omega) (by omega)]; omega
    obtain ⟨o1, o2, o3⟩ := tickV_ok d m k ok
    have ih := l14_1 b0 b1 b2 N hN n (k + 1) (tickV d m k).1 (tickV d m k).2 (by omega) o1 (by omega) (by omega)
    have g49 := c49 (ext := ext) (H := hp H [b0, b1, b2, ⟨true, []⟩, ⟨true, []⟩]) two_lit d m k ok (by omega) (by omega)
    rw [mset_lit, mset_lit] at g49
    rw [s14_1, b14_1]
    simp (maxSteps := 4000000) -implicitDefEqProofs only [↓r14_10, ↓r14_11, ↓r14_12,  go_sem, ↓reduceIte, Nat.reduceMul, Int.reduceLT, Int.reduceNeg, Int.reduceEq, Int.reduceLE, Int.reduceAdd, Int.reduceSub, Nat.reduceEqDiff, Nat.reduceLeDiff, Nat.reduceLT, Nat.reduceAdd, reduceCtorEq, List.getElem?_map, Option.map_some, List.length_map, map_clC, map_nmC, ei64_0, eu8_0, eL_0, h0, h5, g49, ih]
    simp only [kst, tkIt]
end

end
end Go.Ab
namespace Go.Ab
section
variable {ext : Callee}
structure FitOk (c : Config) (t : Track) : Prop where
  acc : ¬ c.maxAccel = 0
  nx : NextIn t
  pos : 0 < t.segments.length
def makeS (c : Config) (t : Track) (seed n : Int) : Script × Bool :=
  if ¬ (cfgFits c t).1 = 0 then (zeroS, false) else if n < 0 then (zeroS, false) else if 4096 < n then (zeroS, false) else (scrOf (mkEnd c t seed n.toNat), true)
theorem MKz1 (p : C) (c : Config) : putAt [p, .d (.i .i64 0), .d (.i .i64 0), .d (.i .i64 0), .d (.i .i64 0), .d (.i .i64 0), .d (.i .i64 0), .d (.i .i64 0), .d (.i .i64 0), .d (.i .i64 0), .d (.i .i64 0), .d (.i .i64 0), .d (.i .i64 0), .d (.i .i64 0), .d (.i .i64 0), .nil 3, .nil 5, .nil 1, .d (.i .i64 0), .d (.i .i64 0), .d (.i .i64 0), .d (.i .i64 0), .d (.i .i64 0), .d (.i .i64 0), .nil 11, .nil 4, .d (.i .i64 0), .d (.i .i64 0), .d (.i .i64 0), .d (.i .i64 0), .d (.i .i64 0), .d (.i .i64 0), .d (.i .i64 0)] 1 ((Config.enc c).map .d) = some ((MK p (mk0 c ⟨[], []⟩)).set 15 (.nil 3) |>.set 16 (.nil 5)) := rfl
theorem MKz2 (p : C) (c : Config) (t : Track) : putAt ((MK p (mk0 c ⟨[], []⟩)).set 15 (.nil 3) |>.set 16 (.nil 5)) 15 ((Track.enc t).map .d) = some (MK p (mk0 c t)) := rfl
section
variable {H : Heap}
set_option maxHeartbeats 32000000 in
set_option maxRecDepth 20000 in
theorem c14 (c : Config) (t : Track) (seed n : Int) (hz : t.Sz) (hfit : (cfgFits c t).1 = 0 → FitOk c t) : callL tab ext 14 [.agg ((Config.enc c).map .d), .agg ((Track.enc t).map .d), .U seed, .I n] H = some (.tup [.agg ((Script.enc (makeS c t seed n).1).map .d), .B (makeS c t seed n).2], H) := by
  have h46 := fun H => c46 (ext := ext) (H := H) c t hz
  rw [cl_14 rfl, B14]
  by_cases q1 : (cfgFits c t).1 = 0
  · by_cases q2 : n < 0
    · simp (maxSteps := 4000000) -implicitDefEqProofs only [↓r14_10, ↓r14_11, ↓r14_12,  go_sem, ↓reduceIte, Nat.reduceMul, Int.reduceLT, Int.reduceNeg, Int.reduceEq, Int.reduceLE, Int.reduceAdd, Int.reduceSub, Nat.reduceEqDiff, Nat.reduceLeDiff, Nat.reduceLT, Nat.reduceAdd, reduceCtorEq, Config.encC_all, Config.enc_0, Config.enc_1, Config.enc_10, Config.enc_11, Config.enc_12, Config.enc_13, Config.enc_2, Config.enc_3, Config.enc_4, Config.enc_5, Config.enc_6, Config.enc_7, Config.enc_8, Config.enc_9, Config.enc_all, Config.enc_len, Track.encC_all, Track.enc_0, Track.enc_1, Track.enc_all, Track.enc_len, List.getElem?_map, Option.map_some, List.length_map, map_clC, map_nmC, ei64_0, eu8_0, eL_0, h46, q1, q2]
      simp only [makeS, q1, q2, not_true, if_false, if_true]
      rfl
    · by_cases q3 : 4096 < n
      · simp (maxSteps := 4000000) -implicitDefEqProofs only [↓r14_10, ↓r14_11, ↓r14_12,  go_sem, ↓reduceIte, Nat.reduceMul, Int.reduceLT, Int.reduceNeg, Int.reduceEq, Int.reduceLE, Int.reduceAdd, Int.reduceSub, Nat.reduceEqDiff, Nat.reduceLeDiff, Nat.reduceLT, Nat.reduceAdd, reduceCtorEq, Config.encC_all, Config.enc_0, Config.enc_1, Config.enc_10, Config.enc_11, Config.enc_12, Config.enc_13, Config.enc_2, Config.enc_3, Config.enc_4, Config.enc_5, Config.enc_6, Config.enc_7, Config.enc_8, Config.enc_9, Config.enc_all, Config.enc_len, Track.encC_all, Track.enc_0, Track.enc_1, Track.enc_all, Track.enc_len, List.getElem?_map, Option.map_some, List.length_map, map_clC, map_nmC, ei64_0, eu8_0, eL_0, h46, q1, q2, q3]
        simp only [makeS, q1, q2, q3, not_true, if_false, if_true]
        rfl
      · obtain ⟨N, rfl⟩ : ∃ N : Nat, n = N := ⟨n.toNat, by omega⟩
        have ok := hfit q1
        have e0 : makeS c t seed (N : Int) = (scrOf (mkEnd c t seed N), true) := by
          unfold makeS; rw [if_neg (by simp [q1]), if_neg q2, if_neg q3]; rfl
        rw [e0]
        unfold mkEnd
        have g48 : ∀ (b0 b1 b2 x : Box) (d n : Int), callL tab ext 48 [.c (.ptr (pid H 3) 0), .I n] (hp H [b0, b1, b2, ⟨true, [U d]⟩, x]) = some (.I (rto d n), hp H [b0, b1, b2, ⟨true, [U (rnd d)]⟩, x]) := by
          intro b0 b1 b2 x d n
          have := c48 (ext := ext) (H := hp H [b0, b1, b2, ⟨true, [U d]⟩, x]) (i := pid H 3) d n (by rw [hp_get]; rfl)
          rw [hp_set] at this
          exact this
        have g47 : ∀ (b0 b1 b2 : Box), callL tab ext 47 [.c (.ptr (pid H 4) 0)] (hp H [b0, b1, b2, ⟨true, [U seed]⟩, ⟨true, MK (.ptr (pid H 3) 0) (mk0 c t)⟩]) = some (.tup [], hp H [b0, b1, b2, ⟨true, [U (wayV seed (mk0 c t)).1]⟩, ⟨true, MK (.ptr (pid H 3) 0) (wayV seed (mk0 c t)).2⟩]) := by
          intro b0 b1 b2
          have := c47 (ext := ext) (H := hp H [b0, b1, b2, ⟨true, []⟩, ⟨true, []⟩]) two_lit seed (mk0 c t) ok.nx ok.pos (fun s hs => (hz.each s hs).1)
          rw [mset_lit, mset_lit] at this
          exact this
        obtain ⟨w1, w2, w3⟩ := way_in ok.nx ok.pos seed (rnd seed)
        have okw : MkOk (wayV seed (mk0 c t)).2 := ⟨ok.acc, hz.grps, by show (wyGo t 60 (rnd seed) [rto seed t.segments.length]).2.length < _; omega, w2, w1⟩
        have hrd : (wayV seed (mk0 c t)).2.reads = [] := rfl
        have htk : (wayV seed (mk0 c t)).2.ticks = [] := rfl
        have hwc : (wayV seed (mk0 c t)).2.c = c := rfl
        generalize wayV seed (mk0 c t) = W at *
        obtain ⟨d1, m1⟩ := W
        simp only at okw hrd htk hwc g47 ⊢
        have hl := fun b0 b1 b2 => l14_1 (ext := ext) (H := H) b0 b1 b2 N (by omega) N 0 (initV d1 m1).1 (initV d1 m1).2 (by omega) ⟨okw.acc, okw.grp, okw.rlen, okw.rin, okw.rne⟩ (by show m1.reads.length ≤ 0; rw [hrd]; simp) (by show m1.ticks.length = 0; rw [htk]; rfl)
        unfold initV inC at hl ⊢
        simp only [nat_0, hwc] at hl ⊢
        simp (maxSteps := 4000000) -implicitDefEqProofs only [↓r14_10, ↓r14_11, ↓r14_12,  ↓s14_0, b14_0, go_sem, ↓reduceIte, Nat.reduceMul, Int.reduceLT, Int.reduceNeg, Int.reduceEq, Int.reduceLE, Int.reduceAdd, Int.reduceSub, Nat.reduceEqDiff, Nat.reduceLeDiff, Nat.reduceLT, Nat.reduceAdd, reduceCtorEq, Config.encC_all, Config.enc_0, Config.enc_1, Config.enc_10, Config.enc_11, Config.enc_12, Config.enc_13, Config.enc_2, Config.enc_3, Config.enc_4, Config.enc_5, Config.enc_6, Config.enc_7, Config.enc_8, Config.enc_9, Config.enc_all, Config.enc_len, Track.encC_all, Track.enc_0, Track.enc_1, Track.enc_all, Track.enc_len, List.getElem?_map, Option.map_some, List.length_map, map_clC, map_nmC, ei64_0, eu8_0, eL_0, hwc, h46, q1, q2, q3, g47, g48, hl, MKz1, MKz2]
        rfl
  · simp (maxSteps := 4000000) -implicitDefEqProofs only [↓r14_10, ↓r14_11, ↓r14_12,  go_sem, ↓reduceIte, Nat.reduceMul, Int.reduceLT, Int.reduceNeg, Int.reduceEq, Int.reduceLE, Int.reduceAdd, Int.reduceSub, Nat.reduceEqDiff, Nat.reduceLeDiff, Nat.reduceLT, Nat.reduceAdd, reduceCtorEq, Config.encC_all, Config.enc_0, Config.enc_1, Config.enc_10, Config.enc_11, Config.enc_12, Config.enc_13, Config.enc_2, Config.enc_3, Config.enc_4, Config.enc_5, Config.enc_6, Config.enc_7, Config.enc_8, Config.enc_9, Config.enc_all, Config.enc_len, Track.encC_all, Track.enc_0, Track.enc_1, Track.enc_all, Track.enc_len, List.getElem?_map, Option.map_some, List.length_map, map_clC, map_nmC, ei64_0, eu8_0, eL_0, h46, q1]
    simp only [makeS, q1, not_false_eq_true, if_true]
    rfl
end

end
end Go.Ab
namespace Go.Ab
section
variable {ext : Callee}
def ancM : Track := ⟨[⟨9000, [⟨0, 0⟩], []⟩], []⟩
theorem ancM_Sz : ancM.Sz := ⟨by decide, by decide, fun s hs => by
  simp only [ancM, List.mem_singleton] at hs
  subst hs; simp⟩
theorem scr_put (S : Script) : putAt [.nil 1, .d (.i .i64 0), .d (.i .i64 0), .d (.i .i64 0), .d (.i .i64 0), .d (.i .i64 0), .d (.i .i64 0), .nil 11, .nil 4] 0 ((Script.enc S).map .d) = some ((Script.enc S).map .d) := rfl
theorem zero_t : zeroS.ticks.length = 0 := rfl
theorem zero_r : zeroS.route.length = 0 := rfl
theorem zero_d : zeroS.reads.length = 0 := rfl
theorem fitM : (cfgFits usualC ancM).1 = 0 := by decide +kernel
theorem fitZ : ¬ (cfgFits zeroC ancM).1 = 0 := by decide +kernel
theorem fitOk_of {c : Config} {t : Track} (h : (cfgFits c t).1 = 0) : FitOk c t := by
  obtain ⟨h1, h2⟩ := fits_parts h
  have C := cf_of h1
  exact ⟨by have := C.ma1; omega, trk_next h2, (trk_segs h2).1⟩
theorem makeS_in {c : Config} {t : Track} {seed : Int} {n : Nat} (h : (cfgFits c t).1 = 0) (hn : n ≤ 4096) : makeS c t seed n = (scrOf (mkEnd c t seed n), true) := by
  unfold makeS
  rw [if_neg (fun e => e h), if_neg (by omega), if_neg (by omega), Int.toNat_natCast]
theorem made_route {c : Config} {t : Track} {s : Script} (h : admitCheck c t s = 0) : 0 < s.route.length := by
  have : routeOk t s = true := by
    unfold admitCheck at h
    by_cases q : ¬ (cfgFits c t).1 = 0
    · rw [if_pos q] at h; exact absurd h (by decide)
    rw [if_neg q] at h
    by_cases q2 : routeOk t s = false
    · rw [if_pos q2] at h; exact absurd h (by decide)
    · simpa using q2
  unfold routeOk at this
  by_cases q : s.route.length = 0
  · rw [if_pos q] at this; cases this
  · omega
theorem tkIt_reads : ∀ (n k : Nat) (d : Int) (m : Maker), MkOk m → (tkIt n k d m).2.reads.length ≤ m.reads.length + n
  | 0, k, d, m, _ => Nat.le_refl _
  | n + 1, k, d, m, ok => by
    obtain ⟨o1, o2, o3⟩ := tickV_ok d m k ok
    have := tkIt_reads n (k + 1) (tickV d m k).1 (tickV d m k).2 o1
    simp only [tkIt]
    omega
theorem made_reads {c : Config} {t : Track} (hz : t.Sz) (h : (cfgFits c t).1 = 0) (d : Int) (n : Nat) : (mkEnd c t d n).reads.length ≤ n := by
  have ok := fitOk_of h
  obtain ⟨w1, w2, w3⟩ := way_in ok.nx ok.pos d (rnd d)
  unfold mkEnd
  have := tkIt_reads n 0 (initV (wayV d (mk0 c t)).1 (wayV d (mk0 c t)).2).1 (initV (wayV d (mk0 c t)).1 (wayV d (mk0 c t)).2).2 ⟨ok.acc, hz.grps, by show (wyGo t 60 (rnd d) [rto d t.segments.length]).2.length < _; omega, w2, w1⟩
  have e : (initV (wayV d (mk0 c t)).1 (wayV d (mk0 c t)).2).2.reads = [] := rfl
  rw [e] at this
  simpa using this
set_option maxHeartbeats 8000000 in
set_option maxRecDepth 20000 in
theorem c13 {H : Heap} : callL tab ext 13 [] H = some (.B true, H) := by
  have h1 := fun H => c14 (ext := ext) (H := H) usualC ancM 5 3 ancM_Sz fitOk_of
  have h2 := fun H => c14 (ext := ext) (H := H) zeroC ancM 5 3 ancM_Sz fitOk_of
  have e1 : makeS usualC ancM 5 3 = (scrOf (mkEnd usualC ancM 5 3), true) := makeS_in (n := 3) fitM (by omega)
  have e2 : makeS zeroC ancM 5 3 = (zeroS, false) := by unfold makeS; rw [if_pos fitZ]
  obtain ⟨m1, m2, m3, m4, m5⟩ := made_ok fitM 5 3 (by omega)
  have m6 := made_route m1
  rw [e1] at h1
  rw [e2] at h2
  have m2 : (scrOf (mkEnd usualC ancM 5 3)).ticks.length = 3 := m2
  generalize scrOf (mkEnd usualC ancM 5 3) = S at *
  have n1 : ((S.ticks.length : Int) = 3) = True := by simp; omega
  have n2 : (0 < (S.route.length : Int)) = True := by simp; omega
  simp only [usualC, zeroC, ancM, Config.enc, Track.enc, Segment.enc, Piece.enc, Group.enc, ei64, List.map_cons, List.map_nil] at h1 h2
  rw [cl_13 rfl, B13]
  simp (maxSteps := 4000000) -implicitDefEqProofs only [ go_sem, ↓reduceIte, Nat.reduceMul, Int.reduceLT, Int.reduceNeg, Int.reduceEq, Int.reduceLE, Int.reduceAdd, Int.reduceSub, Nat.reduceEqDiff, Nat.reduceLeDiff, Nat.reduceLT, Nat.reduceAdd, reduceCtorEq, Script.encC_all, Script.enc_0, Script.enc_1, Script.enc_2, Script.enc_3, Script.enc_4, Script.enc_5, Script.enc_6, Script.enc_7, Script.enc_8, Script.enc_all, Script.enc_len, Script.subC_3_2, Script.subC_5_2, Script.sub_3_2, Script.sub_5_2, List.getElem?_map, Option.map_some, List.length_map, map_clC, map_nmC, ei64_0, eu8_0, eL_0, h1, h2, scr_put, bdA_map, chop_one, n1, n2]
section
variable {H : Heap}
set_option maxHeartbeats 4000000 in
theorem l3_0 (l : List Segment) (a2 n : Int) (b0 b1 : Box) (hn : l.length < 2 ^ 63) : ∀ (r : List Segment) (i : Nat), l.drop i = r →
    runL tab ext k3_0 ⟨(upd (upd (upd (upd (upd (upd (upd und 38 (.I i)) 37 (.I l.length)) 36 (VL 3 Segment.enc l)) 5 (.c (.ptr (pid H 1) 0))) 4 (.c (.ptr (pid H 0) 0))) 3 (.I n)) 2 (.U a2)), hp H [b0, b1]⟩ =
    if segBig r = true then some (.ret, ⟨(upd und 8 (.B true)), hp H [b0, b1]⟩) else some (.exit 0, ⟨(upd (upd (upd (upd und 5 (.c (.ptr (pid H 1) 0))) 4 (.c (.ptr (pid H 0) 0))) 3 (.I n)) 2 (.U a2)), hp H [b0, b1]⟩)
  | [], i, hs => by
    have h0 := dr_end hs
    rw [s3_0, b3_0]
    simp (maxSteps := 4000000) -implicitDefEqProofs only [↓r3_12, ↓r3_15,  go_sem, ↓reduceIte, Nat.reduceMul, Int.reduceLT, Int.reduceNeg, Int.reduceEq, Int.reduceLE, Int.reduceAdd, Int.reduceSub, Nat.reduceEqDiff, Nat.reduceLeDiff, Nat.reduceLT, Nat.reduceAdd, reduceCtorEq, Segment.enc, Segment.encC_all, Segment.enc_0, Segment.enc_1, Segment.enc_2, Segment.enc_all, Segment.enc_len, List.getElem?_map, Option.map_some, List.length_map, map_clC, map_nmC, ei64_0, eu8_0, eL_0, h0]
    simp only [segBig, kst, Bool.false_eq_true, if_false]
  | k :: r, i, hs => by
    obtain ⟨h1, h2, h3⟩ := dr_cons hs
    have ih := l3_0 l a2 n b0 b1 hn r (i + 1) h3
    have h4 := dr_lt h2
    have h5 := w64_inc h2 hn
    rw [s3_0, b3_0]
    simp (maxSteps := 4000000) -implicitDefEqProofs only [↓r3_12, ↓r3_15,  go_sem, ↓reduceIte, Nat.reduceMul, Int.reduceLT, Int.reduceNeg, Int.reduceEq, Int.reduceLE, Int.reduceAdd, Int.reduceSub, Nat.reduceEqDiff, Nat.reduceLeDiff, Nat.reduceLT, Nat.reduceAdd, reduceCtorEq, Segment.enc, Segment.encC_all, Segment.enc_0, Segment.enc_1, Segment.enc_2, Segment.enc_all, Segment.enc_len, List.getElem?_map, Option.map_some, List.length_map, map_clC, map_nmC, ei64_0, eu8_0, eL_0, h1, h4, h5, ih]
    simp only [segBig, kst]
    all_goals ((repeat' (first | with_reducible rfl | with_reducible contradiction | split)) <;> (first | with_reducible rfl | (simp_all; done) | (simp_all; omega) | omega))
end
theorem tickBig_of : ∀ {l : List Tick}, (∀ k ∈ l, k.junk = []) → tickBig l = false
  | [], _ => rfl
  | x :: r, h => by
    simp only [tickBig]
    rw [h x (by simp)]
    simp only [List.length_nil]
    rw [if_neg (by decide), if_neg (by decide)]
    exact tickBig_of fun k hk => h k (by simp [hk])
theorem bad_fits {c : Config} {t : Track} : ((refFits c t).1 = 0) = ((cfgFits c t).1 = 0) := propext (fits_same c t)
section
variable {H : Heap}
set_option maxHeartbeats 16000000 in
set_option maxRecDepth 20000 in
theorem c3 (c : Config) (t : Track) (seed n : Int) (hz : t.Sz) : callL tab ext 3 [.agg ((Config.enc c).map .d), .agg ((Track.enc t).map .d), .U seed, .I n] H = some (.B true, H) := by
  have hl := fun b0 b1 => l3_0 (ext := ext) t.segments seed n b0 b1 (H := H) hz.segs t.segments 0 rfl
  simp only [nat_0] at hl
  have g14 := fun H => c14 (ext := ext) (H := H) c t seed n hz fitOk_of
  have g15 := fun H => c15 (ext := ext) (H := H) c t hz
  rw [cl_3 rfl, B3]
  by_cases q1 : 50 < (t.segments.length : Int)
  · simp (maxSteps := 4000000) -implicitDefEqProofs only [↓r3_12, ↓r3_15,  go_sem, ↓reduceIte, Nat.reduceMul, Int.reduceLT, Int.reduceNeg, Int.reduceEq, Int.reduceLE, Int.reduceAdd, Int.reduceSub, Nat.reduceEqDiff, Nat.reduceLeDiff, Nat.reduceLT, Nat.reduceAdd, reduceCtorEq, Config.encC_all, Config.enc_0, Config.enc_1, Config.enc_10, Config.enc_11, Config.enc_12, Config.enc_13, Config.enc_2, Config.enc_3, Config.enc_4, Config.enc_5, Config.enc_6, Config.enc_7, Config.enc_8, Config.enc_9, Config.enc_all, Config.enc_len, Track.encC_all, Track.enc_0, Track.enc_1, Track.enc_all, Track.enc_len, Script.encC_all, Script.enc_0, Script.enc_1, Script.enc_2, Script.enc_3, Script.enc_4, Script.enc_5, Script.enc_6, Script.enc_7, Script.enc_8, Script.enc_all, Script.enc_len, Script.subC_3_2, Script.subC_5_2, Script.sub_3_2, Script.sub_5_2, List.getElem?_map, Option.map_some, List.length_map, map_clC, map_nmC, ei64_0, eu8_0, eL_0, c13, q1]
  by_cases q2 : 100 < (t.groups.length : Int)
  · simp (maxSteps := 4000000) -implicitDefEqProofs only [↓r3_12, ↓r3_15,  go_sem, ↓reduceIte, Nat.reduceMul, Int.reduceLT, Int.reduceNeg, Int.reduceEq, Int.reduceLE, Int.reduceAdd, Int.reduceSub, Nat.reduceEqDiff, Nat.reduceLeDiff, Nat.reduceLT, Nat.reduceAdd, reduceCtorEq, Config.encC_all, Config.enc_0, Config.enc_1, Config.enc_10, Config.enc_11, Config.enc_12, Config.enc_13, Config.enc_2, Config.enc_3, Config.enc_4, Config.enc_5, Config.enc_6, Config.enc_7, Config.enc_8, Config.enc_9, Config.enc_all, Config.enc_len, Track.encC_all, Track.enc_0, Track.enc_1, Track.enc_all, Track.enc_len, Script.encC_all, Script.enc_0, Script.enc_1, Script.enc_2, Script.enc_3, Script.enc_4, Script.enc_5, Script.enc_6, Script.enc_7, Script.enc_8, Script.enc_all, Script.enc_len, Script.subC_3_2, Script.subC_5_2, Script.sub_3_2, Script.sub_5_2, List.getElem?_map, Option.map_some, List.length_map, map_clC, map_nmC, ei64_0, eu8_0, eL_0, c13, q1, q2]
  by_cases q3 : segBig t.segments = true
  · by_cases q4 : 100 < n
    · by_cases q5 : n ≤ 4096
      · simp (maxSteps := 4000000) -implicitDefEqProofs only [↓r3_12, ↓r3_15,  go_sem, ↓reduceIte, Nat.reduceMul, Int.reduceLT, Int.reduceNeg, Int.reduceEq, Int.reduceLE, Int.reduceAdd, Int.reduceSub, Nat.reduceEqDiff, Nat.reduceLeDiff, Nat.reduceLT, Nat.reduceAdd, reduceCtorEq, Config.encC_all, Config.enc_0, Config.enc_1, Config.enc_10, Config.enc_11, Config.enc_12, Config.enc_13, Config.enc_2, Config.enc_3, Config.enc_4, Config.enc_5, Config.enc_6, Config.enc_7, Config.enc_8, Config.enc_9, Config.enc_all, Config.enc_len, Track.encC_all, Track.enc_0, Track.enc_1, Track.enc_all, Track.enc_len, Script.encC_all, Script.enc_0, Script.enc_1, Script.enc_2, Script.enc_3, Script.enc_4, Script.enc_5, Script.enc_6, Script.enc_7, Script.enc_8, Script.enc_all, Script.enc_len, Script.subC_3_2, Script.subC_5_2, Script.sub_3_2, Script.sub_5_2, List.getElem?_map, Option.map_some, List.length_map, map_clC, map_nmC, ei64_0, eu8_0, eL_0, c13, q1, q2, q4, q5]
      · simp (maxSteps := 4000000) -implicitDefEqProofs only [↓r3_12, ↓r3_15,  go_sem, ↓reduceIte, Nat.reduceMul, Int.reduceLT, Int.reduceNeg, Int.reduceEq, Int.reduceLE, Int.reduceAdd, Int.reduceSub, Nat.reduceEqDiff, Nat.reduceLeDiff, Nat.reduceLT, Nat.reduceAdd, reduceCtorEq, Config.encC_all, Config.enc_0, Config.enc_1, Config.enc_10, Config.enc_11, Config.enc_12, Config.enc_13, Config.enc_2, Config.enc_3, Config.enc_4, Config.enc_5, Config.enc_6, Config.enc_7, Config.enc_8, Config.enc_9, Config.enc_all, Config.enc_len, Track.encC_all, Track.enc_0, Track.enc_1, Track.enc_all, Track.enc_len, Script.encC_all, Script.enc_0, Script.enc_1, Script.enc_2, Script.enc_3, Script.enc_4, Script.enc_5, Script.enc_6, Script.enc_7, Script.enc_8, Script.enc_all, Script.enc_len, Script.subC_3_2, Script.subC_5_2, Script.sub_3_2, Script.sub_5_2, List.getElem?_map, Option.map_some, List.length_map, map_clC, map_nmC, ei64_0, eu8_0, eL_0, c13, q1, q2, q4, q5, hl, q3]
    · simp (maxSteps := 4000000) -implicitDefEqProofs only [↓r3_12, ↓r3_15,  go_sem, ↓reduceIte, Nat.reduceMul, Int.reduceLT, Int.reduceNeg, Int.reduceEq, Int.reduceLE, Int.reduceAdd, Int.reduceSub, Nat.reduceEqDiff, Nat.reduceLeDiff, Nat.reduceLT, Nat.reduceAdd, reduceCtorEq, Config.encC_all, Config.enc_0, Config.enc_1, Config.enc_10, Config.enc_11, Config.enc_12, Config.enc_13, Config.enc_2, Config.enc_3, Config.enc_4, Config.enc_5, Config.enc_6, Config.enc_7, Config.enc_8, Config.enc_9, Config.enc_all, Config.enc_len, Track.encC_all, Track.enc_0, Track.enc_1, Track.enc_all, Track.enc_len, Script.encC_all, Script.enc_0, Script.enc_1, Script.enc_2, Script.enc_3, Script.enc_4, Script.enc_5, Script.enc_6, Script.enc_7, Script.enc_8, Script.enc_all, Script.enc_len, Script.subC_3_2, Script.subC_5_2, Script.sub_3_2, Script.sub_5_2, List.getElem?_map, Option.map_some, List.length_map, map_clC, map_nmC, ei64_0, eu8_0, eL_0, c13, q1, q2, q4, hl, q3]
  have q3 : segBig t.segments = false := by simpa using q3
  have hb := segBig_le q3
  have g16 := fun H => c16 (ext := ext) (H := H) t (by omega) (by omega) (fun k hk => by have := (hb k hk).1; omega)
  by_cases f : (cfgFits c t).1 = 0
  · have f' : (refFits c t).1 = 0 := by rw [bad_fits]; exact f
    by_cases q6 : n < 0
    · have e : makeS c t seed n = (zeroS, false) := by unfold makeS; rw [if_neg (fun e => e f), if_pos q6]
      have q4 : ¬ 100 < n := by omega
      rw [e] at g14
      simp (maxSteps := 4000000) -implicitDefEqProofs only [↓r3_12, ↓r3_15,  go_sem, ↓reduceIte, Nat.reduceMul, Int.reduceLT, Int.reduceNeg, Int.reduceEq, Int.reduceLE, Int.reduceAdd, Int.reduceSub, Nat.reduceEqDiff, Nat.reduceLeDiff, Nat.reduceLT, Nat.reduceAdd, reduceCtorEq, Config.encC_all, Config.enc_0, Config.enc_1, Config.enc_10, Config.enc_11, Config.enc_12, Config.enc_13, Config.enc_2, Config.enc_3, Config.enc_4, Config.enc_5, Config.enc_6, Config.enc_7, Config.enc_8, Config.enc_9, Config.enc_all, Config.enc_len, Track.encC_all, Track.enc_0, Track.enc_1, Track.enc_all, Track.enc_len, Script.encC_all, Script.enc_0, Script.enc_1, Script.enc_2, Script.enc_3, Script.enc_4, Script.enc_5, Script.enc_6, Script.enc_7, Script.enc_8, Script.enc_all, Script.enc_len, Script.subC_3_2, Script.subC_5_2, Script.sub_3_2, Script.sub_5_2, List.getElem?_map, Option.map_some, List.length_map, map_clC, map_nmC, ei64_0, eu8_0, eL_0, c13, q1, q2, q4, hl, q3, g14, zero_t, zero_r, zero_d, scr_put, bdA_map, g15, g16, f', q6]
    · by_cases q4 : 100 < n
      · by_cases q5 : n ≤ 4096
        · simp (maxSteps := 4000000) -implicitDefEqProofs only [↓r3_12, ↓r3_15,  go_sem, ↓reduceIte, Nat.reduceMul, Int.reduceLT, Int.reduceNeg, Int.reduceEq, Int.reduceLE, Int.reduceAdd, Int.reduceSub, Nat.reduceEqDiff, Nat.reduceLeDiff, Nat.reduceLT, Nat.reduceAdd, reduceCtorEq, Config.encC_all, Config.enc_0, Config.enc_1, Config.enc_10, Config.enc_11, Config.enc_12, Config.enc_13, Config.enc_2, Config.enc_3, Config.enc_4, Config.enc_5, Config.enc_6, Config.enc_7, Config.enc_8, Config.enc_9, Config.enc_all, Config.enc_len, Track.encC_all, Track.enc_0, Track.enc_1, Track.enc_all, Track.enc_len, Script.encC_all, Script.enc_0, Script.enc_1, Script.enc_2, Script.enc_3, Script.enc_4, Script.enc_5, Script.enc_6, Script.enc_7, Script.enc_8, Script.enc_all, Script.enc_len, Script.subC_3_2, Script.subC_5_2, Script.sub_3_2, Script.sub_5_2, List.getElem?_map, Option.map_some, List.length_map, map_clC, map_nmC, ei64_0, eu8_0, eL_0, c13, q1, q2, q4, q5]
        · have q7 : 4096 < n := by omega
          have e : makeS c t seed n = (zeroS, false) := by unfold makeS; rw [if_neg (fun e => e f), if_neg q6, if_pos q7]
          rw [e] at g14
          simp (maxSteps := 4000000) -implicitDefEqProofs only [↓r3_12, ↓r3_15,  go_sem, ↓reduceIte, Nat.reduceMul, Int.reduceLT, Int.reduceNeg, Int.reduceEq, Int.reduceLE, Int.reduceAdd, Int.reduceSub, Nat.reduceEqDiff, Nat.reduceLeDiff, Nat.reduceLT, Nat.reduceAdd, reduceCtorEq, Config.encC_all, Config.enc_0, Config.enc_1, Config.enc_10, Config.enc_11, Config.enc_12, Config.enc_13, Config.enc_2, Config.enc_3, Config.enc_4, Config.enc_5, Config.enc_6, Config.enc_7, Config.enc_8, Config.enc_9, Config.enc_all, Config.enc_len, Track.encC_all, Track.enc_0, Track.enc_1, Track.enc_all, Track.enc_len, Script.encC_all, Script.enc_0, Script.enc_1, Script.enc_2, Script.enc_3, Script.enc_4, Script.enc_5, Script.enc_6, Script.enc_7, Script.enc_8, Script.enc_all, Script.enc_len, Script.subC_3_2, Script.subC_5_2, Script.sub_3_2, Script.sub_5_2, List.getElem?_map, Option.map_some, List.length_map, map_clC, map_nmC, ei64_0, eu8_0, eL_0, c13, q1, q2, q4, q5, hl, q3, g14, zero_t, zero_r, zero_d, scr_put, bdA_map, g15, g16, f', q6, q7]
      · obtain ⟨N, rfl⟩ : ∃ N : Nat, n = N := ⟨n.toNat, by omega⟩
        have q7 : ¬ 4096 < (N : Int) := by omega
        have e := makeS_in (seed := seed) (n := N) f (by omega)
        obtain ⟨m1, m2, m3, m4, m5⟩ := made_ok f seed N (by omega)
        have m6 := made_reads hz f seed N
        rw [e] at g14
        have m2 : (scrOf (mkEnd c t seed N)).ticks.length = N := m2
        have m3 : (scrOf (mkEnd c t seed N)).route.length ≤ 60 := m3
        have m4 : ∀ y ∈ (scrOf (mkEnd c t seed N)).ticks, y.junk = [] := m4
        have m6 : (scrOf (mkEnd c t seed N)).reads.length ≤ N := m6
        generalize scrOf (mkEnd c t seed N) = S at *
        have hS : Small t S := ⟨by omega, by omega, by omega, by omega, by omega, hb, fun k hk => by rw [m4 k hk]; exact ⟨by simp, fun b hb => by cases hb⟩⟩
        have hgr : great t S = false := by
          unfold great
          rw [if_neg q1, if_neg q2, if_neg (by omega), if_neg (by omega), if_neg (by omega), if_neg (by simp [q3])]
          exact tickBig_of m4
        have hB : Bytes S := fun k hk b hb => by rw [m4 k hk] at hb; cases hb
        have g18 := fun H => c18 (ext := ext) (H := H) S (by omega) (by omega)
        have g17 := fun H => c17 (ext := ext) (H := H) c t (refS S) hz (refS_Sz hS)
        rw [← law4 c t S hB hgr, m1] at g17
        have n1 : ((S.ticks.length : Int) = (N : Int)) = True := by simp; omega
        simp (maxSteps := 4000000) -implicitDefEqProofs only [↓r3_12, ↓r3_15,  go_sem, ↓reduceIte, Nat.reduceMul, Int.reduceLT, Int.reduceNeg, Int.reduceEq, Int.reduceLE, Int.reduceAdd, Int.reduceSub, Nat.reduceEqDiff, Nat.reduceLeDiff, Nat.reduceLT, Nat.reduceAdd, reduceCtorEq, Config.encC_all, Config.enc_0, Config.enc_1, Config.enc_10, Config.enc_11, Config.enc_12, Config.enc_13, Config.enc_2, Config.enc_3, Config.enc_4, Config.enc_5, Config.enc_6, Config.enc_7, Config.enc_8, Config.enc_9, Config.enc_all, Config.enc_len, Track.encC_all, Track.enc_0, Track.enc_1, Track.enc_all, Track.enc_len, Script.encC_all, Script.enc_0, Script.enc_1, Script.enc_2, Script.enc_3, Script.enc_4, Script.enc_5, Script.enc_6, Script.enc_7, Script.enc_8, Script.enc_all, Script.enc_len, Script.subC_3_2, Script.subC_5_2, Script.sub_3_2, Script.sub_5_2, List.getElem?_map, Option.map_some, List.length_map, map_clC, map_nmC, ei64_0, eu8_0, eL_0, c13, q1, q2, q4, hl, q3, g14, zero_t, zero_r, zero_d, scr_put, bdA_map, g15, g16, g17, g18, f', q6, q7, n1]
  · have f' : ¬ (refFits c t).1 = 0 := by rw [bad_fits]; exact f
    have e : makeS c t seed n = (zeroS, false) := by unfold makeS; rw [if_pos f]
    rw [e] at g14
    by_cases q4 : 100 < n
    · by_cases q5 : n ≤ 4096
      · simp (maxSteps := 4000000) -implicitDefEqProofs only [↓r3_12, ↓r3_15,  go_sem, ↓reduceIte, Nat.reduceMul, Int.reduceLT, Int.reduceNeg, Int.reduceEq, Int.reduceLE, Int.reduceAdd, Int.reduceSub, Nat.reduceEqDiff, Nat.reduceLeDiff, Nat.reduceLT, Nat.reduceAdd, reduceCtorEq, Config.encC_all, Config.enc_0, Config.enc_1, Config.enc_10, Config.enc_11, Config.enc_12, Config.enc_13, Config.enc_2, Config.enc_3, Config.enc_4, Config.enc_5, Config.enc_6, Config.enc_7, Config.enc_8, Config.enc_9, Config.enc_all, Config.enc_len, Track.encC_all, Track.enc_0, Track.enc_1, Track.enc_all, Track.enc_len, Script.encC_all, Script.enc_0, Script.enc_1, Script.enc_2, Script.enc_3, Script.enc_4, Script.enc_5, Script.enc_6, Script.enc_7, Script.enc_8, Script.enc_all, Script.enc_len, Script.subC_3_2, Script.subC_5_2, Script.sub_3_2, Script.sub_5_2, List.getElem?_map, Option.map_some, List.length_map, map_clC, map_nmC, ei64_0, eu8_0, eL_0, c13, q1, q2, q4, q5]
      · simp (maxSteps := 4000000) -implicitDefEqProofs only [↓r3_12, ↓r3_15,  go_sem, ↓reduceIte, Nat.reduceMul, Int.reduceLT, Int.reduceNeg, Int.reduceEq, Int.reduceLE, Int.reduceAdd, Int.reduceSub, Nat.reduceEqDiff, Nat.reduceLeDiff, Nat.reduceLT, Nat.reduceAdd, reduceCtorEq, Config.encC_all, Config.enc_0, Config.enc_1, Config.enc_10, Config.enc_11, Config.enc_12, Config.enc_13, Config.enc_2, Config.enc_3, Config.enc_4, Config.enc_5, Config.enc_6, Config.enc_7, Config.enc_8, Config.enc_9, Config.enc_all, Config.enc_len, Track.encC_all, Track.enc_0, Track.enc_1, Track.enc_all, Track.enc_len, Script.encC_all, Script.enc_0, Script.enc_1, Script.enc_2, Script.enc_3, Script.enc_4, Script.enc_5, Script.enc_6, Script.enc_7, Script.enc_8, Script.enc_all, Script.enc_len, Script.subC_3_2, Script.subC_5_2, Script.sub_3_2, Script.sub_5_2, List.getElem?_map, Option.map_some, List.length_map, map_clC, map_nmC, ei64_0, eu8_0, eL_0, c13, q1, q2, q4, q5, hl, q3, g14, zero_t, zero_r, zero_d, scr_put, bdA_map, g15, g16, f']
    · simp (maxSteps := 4000000) -implicitDefEqProofs only [↓r3_12, ↓r3_15,  go_sem, ↓reduceIte, Nat.reduceMul, Int.reduceLT, Int.reduceNeg, Int.reduceEq, Int.reduceLE, Int.reduceAdd, Int.reduceSub, Nat.reduceEqDiff, Nat.reduceLeDiff, Nat.reduceLT, Nat.reduceAdd, reduceCtorEq, Config.encC_all, Config.enc_0, Config.enc_1, Config.enc_10, Config.enc_11, Config.enc_12, Config.enc_13, Config.enc_2, Config.enc_3, Config.enc_4, Config.enc_5, Config.enc_6, Config.enc_7, Config.enc_8, Config.enc_9, Config.enc_all, Config.enc_len, Track.encC_all, Track.enc_0, Track.enc_1, Track.enc_all, Track.enc_len, Script.encC_all, Script.enc_0, Script.enc_1, Script.enc_2, Script.enc_3, Script.enc_4, Script.enc_5, Script.enc_6, Script.enc_7, Script.enc_8, Script.enc_all, Script.enc_len, Script.subC_3_2, Script.subC_5_2, Script.sub_3_2, Script.sub_5_2, List.getElem?_map, Option.map_some, List.length_map, map_clC, map_nmC, ei64_0, eu8_0, eL_0, c13, q1, q2, q4, hl, q3, g14, zero_t, zero_r, zero_d, scr_put, bdA_map, g15, g16, f']
end

end
end Go.Ab
