/-
  What functions of the program come to.
  Conditions: none.
-/
import Derived.Test.YtnnjmbblpmghfaaGreatSi
set_option linter.unusedSimpArgs false
set_option linter.unusedVariables false
namespace Go.Ab
section
variable {ext : Callee}
section
variable {H : Heap} {i j : Nat}
set_option maxHeartbeats 32000000 in
set_option maxRecDepth 20000 in
theorem c49b (hT : Two H i j) (d : Int) (m : Maker) (ok : MkOk m) (hr : m.reads.length ≤ 4096) (ht : m.ticks.length ≤ 4096) (hv : spV (spB d m).2 ≠ 0) : callL tab ext 49 [.c (.ptr j 0), .I (0 : Nat)] (mset H i j d (MK (.ptr i 0) m)) = some (.tup [], mset H i j (tickV d m 0).1 (MK (.ptr i 0) (tickV d m 0).2)) := by
  have e1 := fun F d cs => mset_j (hT.hp F) (d := d) (cs := cs)
  have e2 := fun F d cs => mset_i (hT.hp F) (d := d) (cs := cs)
  have e3 := fun F d cs cs' => mset_setj (H := hp H F) (i := i) (j := j) (d := d) (cs := cs) (cs' := cs')
  have e4 := fun F d d' cs => mset_seti (hT.hp F) (d := d) (d' := d') (cs := cs)
  have e5 := fun F d cs => mset_hp hT (d := d) (cs := cs) (F := F)
  have e6 := fun F d cs k => mset_get hT (d := d) (cs := cs) (F := F) (k := k)
  have e7 := fun F d cs k b => mset_put hT (d := d) (cs := cs) (F := F) (k := k) (b := b)
  have e8 := fun F d cs b => mset_add hT (d := d) (cs := cs) (F := F) (b := b)
  have e9 := fun F d cs => mset_plen (H := H) (i := i) (j := j) (d := d) (cs := cs) (F := F)
  have e10 := fun F d cs => mset_take0 hT (d := d) (cs := cs) (F := F)
  have e11 := fun F d cs k => mset_take hT (d := d) (cs := cs) (F := F) (k := k)
  have e12 := fun d cs => mset_len (H := H) (i := i) (j := j) (d := d) (cs := cs)
  have g48 := fun F d cs n => c48 (ext := ext) (H := mset (hp H F) i j d cs) (i := i) d n (mset_i (hT.hp F))
  have g99 := fun F d cs n => c99 (ext := ext) (H := mset (hp H F) i j d cs) (i := i) d n (mset_i (hT.hp F))
  have g98 := fun F => c98 (ext := ext) (hT.hp F) d m ok.acc
  obtain ⟨s1, s2, s3⟩ := spB_same d m
  unfold tickV
  generalize spB d m = P at *
  obtain ⟨d1, m1⟩ := P
  simp only at s1 s2 s3 hv g98 ⊢
  generalize spV m1 = v at *
  have ok1 := ok.of s1
  have hcmd : tkCmd (rnd (rnd d1)) v = (rnd (rnd d1), true) := by simp only [tkCmd, hv, if_false]
  have hD : tkD d1 v = (rnd (rnd d1)) := by simp only [tkD, hcmd]
  have hY : tkY d1 m1 v = ⟨v, fun _ => 0, (w64 (rto (rnd d1) (w64 (w64 (2 * m1.c.radBase) + 1)) - m1.c.radBase)), (w64 (rto d1 (w64 (w64 (2 * m1.c.accErr) + 1)) - m1.c.accErr)), fun _ => false, [], true⟩ := by simp only [tkY, hcmd]
  have htF : tkF 0 (tkD d1 v) m1 (tkY d1 m1 v) = ((rnd (rnd d1)), m1, tkY d1 m1 v) := by rw [hD]; unfold tkF; rw [if_neg (by decide)]
  rw [htF]
  simp only
  have ok2 := ok1
  have f2 : m1.reads = m1.reads := rfl
  have f1 := SameM.refl m1
  have g101 := fun F => c101 (ext := ext) (hT.hp F) (rnd (rnd d1)) m1 ((0 : Nat) : Int) (w64 (m1.at_ + v)) (by rw [f2, s2]; exact hr) ok2.grp ok2.rlen ok2.rin ok2.rne
  obtain ⟨r1, r2⟩ := readV_same (rnd (rnd d1)) m1 ((0 : Nat) : Int) (w64 (m1.at_ + v))
  generalize readV (rnd (rnd d1)) m1 ((0 : Nat) : Int) (w64 (m1.at_ + v)) = R at *
  obtain ⟨d3, m3⟩ := R
  simp only at r1 r2 g101 ⊢
  have h6 : ((m3.ticks.length + 1) * 80 ≤ 140737488355328) = True := by rw [r1.ticks, f1.ticks, s1.ticks]; simp; omega
  have hz : [D.i .i64 v, .i .i64 0, .i .i64 0, .i .i64 (w64 (rto (rnd d1) (w64 (w64 (2 * m1.c.radBase) + 1)) - m1.c.radBase)), .i .i64 (w64 (rto d1 (w64 (w64 (2 * m1.c.accErr) + 1)) - m1.c.accErr)), .b false, .b false, .b false, .b false, .l 1 [], .b true] = Tick.enc (tkY d1 m1 v) := by rw [hY]; rfl
  have hap := fun e H d bytes x (l : List Tick) => app_own1 (e := e) (H := H) (d := d) (en := 88) (sz := 11) (bytes := bytes) (x := x) (f := Tick.enc) (l := l) hz
  rw [cl_49 rfl, B49]
  simp only [nat_0] at g101 ⊢
  simp (maxSteps := 4000000) -implicitDefEqProofs only [↓r49_1, ↓r49_8, ↓r49_11,  ↓s49_0, b49_0, go_sem, ↓reduceIte, Nat.reduceMul, Int.reduceLT, Int.reduceNeg, Int.reduceEq, Int.reduceLE, Int.reduceAdd, Int.reduceSub, Nat.reduceEqDiff, Nat.reduceLeDiff, Nat.reduceLT, Nat.reduceAdd, reduceCtorEq, Tick.enc, Tick.encC_all, Tick.enc_0, Tick.enc_1, Tick.enc_10, Tick.enc_2, Tick.enc_3, Tick.enc_4, Tick.enc_5, Tick.enc_6, Tick.enc_7, Tick.enc_8, Tick.enc_9, Tick.enc_all, Tick.enc_len, Tick.subC_1_2, Tick.subC_5_4, Tick.sub_1_2, Tick.sub_5_4, Config.encC_all, Config.enc_0, Config.enc_1, Config.enc_10, Config.enc_11, Config.enc_12, Config.enc_13, Config.enc_2, Config.enc_3, Config.enc_4, Config.enc_5, Config.enc_6, Config.enc_7, Config.enc_8, Config.enc_9, Config.enc_all, Config.enc_len, List.getElem?_map, Option.map_some, List.length_map, map_clC, map_nmC, ei64_0, eu8_0, eL_0, e1, e2, e3, e4, e5, e6, e7, e8, e9, e10, e11, e12, g48, g99, g98, g101, hv, h6, step_ldt, ldtC_ownL, step_stt, sttC_ownL, hap, chop_one, List.set_set, List.length_set, List.map_nil]
  rw [hY]; rfl
end

end
end Go.Ab
