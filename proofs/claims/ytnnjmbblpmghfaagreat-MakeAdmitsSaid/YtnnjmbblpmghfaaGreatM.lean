/-
  The soundness of the abstract machine: what its calls come to, the model's calls return.
  Conditions: each function's text has been looked at (chkFn); the contracts of the functions that the machine doesn't know.
-/
import Derived.Test.YtnnjmbblpmghfaaGreatL
set_option linter.unusedSimpArgs false
set_option linter.unusedVariables false
namespace Go.Ab
section
variable {P : Program} {fx : Fx} {g : Gh} {S : Nat → Option Nat} {s : St} {a : Act} {w : World}

theorem resAll_rep (h : SimG fx g S s a w) {n0 mode : Nat} : ∀ {rvs : List ResultVar} {ks : List KRes} {ys : List V} {M0 : Mem}, chkRes P rvs ks = true → resAll n0 mode s ks = some ys → GrowOK g n0 w M0 →
    ∃ us M1, (rvs.mapM (m := Sem) fun rv => oneRes rv a.tmps).run P w = .ok us w ∧ GrowOK g n0 w M1 ∧ (∀ b o v, M0 b o = some v → M1 b o = some v) ∧ All2 (fun y u => RepV ⟨g.β, M1, g.Ow⟩ y u ∧ (mode ≠ 1 → Rep1 ⟨g.β, M1, g.Ow⟩ y u)) ys us ∧ (mode = 2 → M1 = M0) ∧
      (mode ≠ 2 → ∀ y ∈ ys, bdV y ≤ n0) ∧ (∀ y u, ys[0]? = some y → us[0]? = some u → ∀ e sz rows, y = .c (.own e sz rows) → ∃ t, u = a.tmps.getD t undef ∧ s.env t = y)
  | [], [], ys, M0, _, hy, h0 => by
    simp only [resAll] at hy; cases hy
    exact ⟨[], M0, by simp, h0, fun _ _ _ h => h, .nil, fun _ => rfl, fun _ y hy => by simp at hy, fun y u hy => by simp at hy⟩
  | rv :: rvs, [], _, _, hc, _, _ => by cases rv <;> simp [chkRes] at hc
  | [], k :: ks, _, _, hc, _, _ => by simp [chkRes] at hc
  | rv :: rvs, k :: ks, ys, M0, hc, hy, h0 => by
    have hc1 : chkRes P [rv] [k] = true ∧ chkRes P rvs ks = true := by
      cases rv <;> cases k <;> simp_all [chkRes]
    simp only [resAll] at hy
    split at hy
    case h_2 => cases hy
    rename_i v vs hv hvs
    obtain ⟨u, M1, q1, g1, l1, r1, r1', e1, ho⟩ := resOne_rep h hc1.1 hv h0
    obtain ⟨us, M2, q2, g2, l2, r2, e2, b2, _⟩ := resAll_rep h hc1.2 hvs g1
    have hle : (Gh.le ⟨g.β, M1, g.Ow⟩ ⟨g.β, M2, g.Ow⟩) := ⟨fun _ _ h => h, l2⟩
    have hrun : ((rv :: rvs).mapM (m := Sem) fun rv => oneRes rv a.tmps).run P w = .ok (u :: us) w := by
      rw [List.mapM_cons]
      simp only [Sem.run_bind, q1, q2, Result.andThen_ok, Sem.run_pure]
    have fin : ∀ ys, ys = v :: vs → (mode ≠ 2 → bdV v ≤ n0) → ∃ us M1, ((rv :: rvs).mapM (m := Sem) fun rv => oneRes rv a.tmps).run P w = .ok us w ∧ GrowOK g n0 w M1 ∧ (∀ b o v, M0 b o = some v → M1 b o = some v) ∧ All2 (fun y u => RepV ⟨g.β, M1, g.Ow⟩ y u ∧ (mode ≠ 1 → Rep1 ⟨g.β, M1, g.Ow⟩ y u)) ys us ∧ (mode = 2 → M1 = M0) ∧
      (mode ≠ 2 → ∀ y ∈ ys, bdV y ≤ n0) ∧ (∀ y u, ys[0]? = some y → us[0]? = some u → ∀ e sz rows, y = .c (.own e sz rows) → ∃ t, u = a.tmps.getD t undef ∧ s.env t = y) := by
      intro ys hys hbd
      subst hys
      refine ⟨u :: us, M2, hrun, g2, fun b o v h => l2 b o v (l1 b o v h), .cons ⟨r1.mono hle, fun hm => (r1' hm).mono hle⟩ r2, fun hm => by rw [e2 hm, e1 hm], ?_, ?_⟩
      · intro hm y hy
        rcases List.mem_cons.1 hy with rfl | hy
        · exact hbd hm
        · exact b2 hm y hy
      · intro y u' hy hu e sz rows he
        simp only [List.getElem?_cons_zero, Option.some.injEq] at hy hu
        subst hy hu
        exact ho e sz rows he
    split at hy
    · rename_i hm; cases hy; exact fin _ rfl (fun h => absurd hm h)
    · split at hy
      · rename_i hb; cases hy; exact fin _ rfl (fun _ => hb)
      · cases hy

def resOf : List Value → Value
  | [u] => u
  | us => .tuple us.toArray
theorem results_eq (fn : Func) (tmps : Array Value) {us : List Value} (h : (fn.results.toList.mapM (m := Sem) fun rv => oneRes rv tmps).run P w = .ok us w) :
    (results fn tmps).run P w = .ok (resOf us) w := by
  have e : results fn tmps = (do
      let vs ← fn.results.mapM (m := Sem) fun rv => oneRes rv tmps
      pure (if h : vs.size = 1 then vs[0] else .tuple vs)) := by
    unfold results
    congr 1
    congr 1
    funext rv
    cases rv <;> rfl
  rw [e, Array.mapM_eq_mapM_toList]
  simp only [Sem.run_bind, Sem.run_map, h, Result.andThen_ok, Sem.run_pure]
  congr 1
  match us with
  | [] => rfl
  | [u] => rfl
  | u :: u' :: us => simp [resOf]

theorem retV_rep {g2 : Gh} {mode : Nat} {ys : List V} {us : List Value} (hr : All2 (fun y u => RepV g2 y u ∧ (mode ≠ 1 → Rep1 g2 y u)) ys us) (hm : mode = 1 → ys.length = 1) : RepV g2 (retV ys) (resOf us) := by
  match ys, us, hr with
  | [], [], .nil => exact ⟨[], rfl, .nil⟩
  | [y], [u], .cons h1 .nil => exact h1.1
  | y1 :: y2 :: ys3, u1 :: u2 :: us3, .cons h1 (.cons h2 h3) =>
    have hm : mode ≠ 1 := by intro h; have := hm h; simp at this
    exact ⟨u1 :: u2 :: us3, rfl, .cons (h1.2 hm) (.cons (h2.2 hm) (h3.mono fun _ _ _ h => h.2 hm))⟩
theorem retV_noOwn {g2 : Gh} {mode : Nat} {ys : List V} {us : List Value} (hr : All2 (fun y u => RepV g2 y u ∧ (mode ≠ 1 → Rep1 g2 y u)) ys us) (hm : mode ≠ 1) : noOwn (retV ys) := by
  match ys, us, hr with
  | [], [], .nil => trivial
  | [y], [u], .cons h1 .nil => exact Rep1.noOwn (h1.2 hm)
  | y1 :: y2 :: ys3, _, .cons h1 (.cons h2 h3) => trivial
theorem retV_own {ys : List V} {us : List Value} (hl : ys.length = us.length) (hno : ¬ noOwn (retV ys)) : ∃ e sz rows u, ys = [.c (.own e sz rows)] ∧ us = [u] := by
  match ys, us, hl with
  | [], [], _ => exact absurd trivial hno
  | y1 :: y2 :: ys3, _, _ => exact absurd trivial hno
  | [y], [u], _ =>
    cases y with
    | c x => cases x <;> first | exact absurd trivial hno | exact ⟨_, _, _, _, rfl, rfl⟩
    | agg => exact absurd trivial hno
    | tup => exact absurd trivial hno
theorem resAll_len {n0 mode : Nat} : ∀ {ks : List KRes} {ys : List V}, resAll n0 mode s ks = some ys → ys.length = ks.length ∧ ∀ xs, V.tup xs ∉ ys
  | [], ys, h => by simp only [resAll] at h; cases h; simp
  | k :: ks, ys, h => by
    simp only [resAll] at h
    split at h
    · rename_i v vs hv hvs
      obtain ⟨h1, h2⟩ := resAll_len hvs
      have hv' : ∀ xs, v ≠ .tup xs := by
        intro xs e; subst e
        cases k <;> simp only [resOne] at hv <;> (repeat' (split at hv)) <;> cases hv
      have : ∀ ys, ys = v :: vs → ys.length = (k :: ks).length ∧ ∀ xs, V.tup xs ∉ ys := by
        intro ys hys; subst hys
        exact ⟨by simp [h1], fun xs => by simp only [List.mem_cons, not_or]; exact ⟨fun e => hv' xs e.symm, h2 xs⟩⟩
      split at h
      · cases h; exact this _ rfl
      · split at h
        · cases h; exact this _ rfl
        · cases h
    · cases h

/-- A whole function. -/
theorem fn_sound {call : Callee} (hcal : CalleeOK P call) (hbody : BodyOK P call) {f : Nat} {kf : KFn} (hk : chkFn P f kf = true) {fuel : Nat} {args : List V} {H : Heap} (hn : args.length = kf.np) {e : Ex} {s : St}
    (hr : run call fuel kf.body ⟨env0 args, H⟩ = some (e, s)) (he : e = .normal ∨ e = .ret) {r : V} {H' : Heap} (hf : finish kf H.length s = some (r, H')) : CallOK P f args H r H' := by
  intro g w vs A hH hA
  unfold chkFn at hk
  split at hk
  case h_2 => cases hk
  rename_i fn hfn
  simp only [Bool.and_eq_true, beq_iff_eq, decide_eq_true_eq] at hk
  obtain ⟨⟨⟨⟨⟨hkb, hnt⟩, hnp⟩, hres⟩, _⟩, hmode⟩ := hk
  split at hkb
  case h_2 => cases hkb
  rename_i c hc
  let fx : Fx := { nt := fn.ntmps, g0 := g, w0 := w, T := Tch g A, n0 := H.length }
  have hvl : vs.length = args.length := hA.rep.len.symm
  have htm : ∀ t, (vs.toArray ++ Array.replicate (fn.ntmps - vs.toArray.size) undef).getD t undef = (vs[t]?).getD undef := by
    intro t
    rw [Array.getD_eq_getD_getElem?]
    by_cases ht : t < vs.length
    · rw [Array.getElem?_append_left (by simpa using ht)]; simp
    · rw [Array.getElem?_append_right (by simpa using ht), List.getElem?_eq_none (by omega)]
      simp only [Array.getElem?_replicate]
      split <;> rfl
  have hS0 : SimG fx g (fun t => if t = 0 then A else none) ⟨env0 args, H⟩ { tmps := vs.toArray ++ Array.replicate (fn.ntmps - vs.toArray.size) undef, defers := [] } w := by
    have h1 : ∀ t b, (if t = 0 then A else none) = some b → t = 0 ∧ A = some b := by
      intro t b h; split at h
      · rename_i e; exact ⟨e, h⟩
      · cases h
    refine ⟨hH, ⟨?_, ?_, ?_, ?_, ?_, ?_⟩, ?_, rfl, Same.refl w, Nat.le_refl _, fun _ _ _ h => h, fun _ _ _ => ⟨rfl, fun _ => rfl⟩, fun _ _ => rfl, fun i b hi => .inl (.inl ⟨i, hi⟩), fun i o b hi => .inl (.inr (.inl ⟨i, o, hi⟩)), fun t b ht => .inl (.inr (.inr (h1 t b ht).2))⟩
    · intro t
      show RepV g (args.getD t (.c .undef)) _
      rw [htm t, List.getD_eq_getElem?_getD]
      cases hv : args[t]? with
      | none => trivial
      | some v =>
        obtain ⟨u, hu, hr⟩ := hA.rep.get t v hv
        rw [hu]; exact hr
    · intro t
      show OwnV w g.M (if t = 0 then A else none) (args.getD t (.c .undef)) _
      rw [htm t, List.getD_eq_getElem?_getD]
      cases t with
      | zero =>
        cases hv : args[0]? with
        | none => trivial
        | some v =>
          obtain ⟨u, hu, hr⟩ := hA.rep.get 0 v hv
          rw [hu]; exact hA.own v u hv hu
      | succ t =>
        cases hv : args[t + 1]? with
        | none => trivial
        | some v => exact OwnV.of_noOwn (hA.no t v hv)
    · intro t u b ht hu; rw [(h1 t b ht).1, (h1 u b hu).1]
    · intro t i b ht hi; exact (hA.fresh b (h1 t b ht).2).1 i hi
    · intro t i o b ht hi; exact (hA.fresh b (h1 t b ht).2).2.1 i o hi
    · intro t b ht; exact (hA.fresh b (h1 t b ht).2).2.2
    · show (vs.toArray ++ _).size = fn.ntmps
      simp; omega
  refine calls_of_wp hfn hc (wp_mono (code_sound (fx := fx) hcal hbody fuel kf.body c _ s e _ w hkb hr ⟨g, _, hS0⟩) ?_)
  rintro e' a' w' ⟨rfl, g', S', h⟩
  -- the results
  unfold finish at hf
  split at hf
  case h_2 => cases hf
  rename_i ys hys
  cases hf
  have hG0 : GrowOK g' H.length w' g'.M := ⟨fun _ _ _ h => h, h.h.mem, fun b ⟨o, hne⟩ => absurd rfl hne⟩
  obtain ⟨us, M1, q1, gr, l1, rep, e1, bnd, own⟩ := resAll_rep h hres hys hG0
  have hresults := results_eq (P := P) (w := w') fn a'.tmps q1
  have key : ∃ v g2 R, Ending.returned (resOf us) = .returned v ∧ RepV g2 (retV ys) v ∧ OwnV w' g2.M R (retV ys) v ∧ HInv g2 (if kf.mode = 2 then s.H else s.H.take H.length) w' ∧ Post g w A H g2 w' R (if kf.mode = 2 then s.H else s.H.take H.length) := by
    have hlen := resAll_len hys
    have hlk : kf.mode = 1 → ys.length = 1 := by
      intro hm
      simp only [Bool.or_eq_true, bne_iff_ne, ne_eq, beq_iff_eq] at hmode
      rcases hmode with hmode | hmode
      · exact absurd hm hmode
      · rw [hlen.1]; exact hmode
    have hkeepM : ∀ b, b < w.heap.size → ¬ Tch g A b → w'.heap[b]? = w.heap[b]? ∧ ∀ o, M1 b o = g.M b o := by
      intro b hb hT
      obtain ⟨k1, k2⟩ := h.keep b hb hT
      refine ⟨k1, fun o => ?_⟩
      have : M1 b o = g'.M b o := by
        apply Classical.byContradiction
        intro hne
        obtain ⟨i, _, hi⟩ := gr.new b ⟨o, hne⟩
        rcases h.βT i b hi with h' | h'
        · exact hT h'
        · have : w.heap.size ≤ b := h'
          omega
      rw [this]; exact k2 o
    by_cases hm2 : kf.mode = 2
    · -- boxes are kept
      have hM : M1 = g'.M := e1 hm2
      subst hM
      rw [if_pos hm2]
      refine ⟨_, g', none, rfl, retV_rep rep hlk, ?_, h.h, ?_⟩
      · exact OwnV.of_noOwn (retV_noOwn rep (by omega))
      · exact ⟨h.same, h.M, fun b hb hT => ⟨(h.keep b hb hT).1, (h.keep b hb hT).2⟩, h.βold, h.βT, h.OwT, fun b hb => (by cases hb), h.n0⟩
    · rw [if_neg hm2]
      let g2 : Gh := ⟨fun i => if i < H.length then g'.β i else none, M1, fun i o => if i < H.length then g'.Ow i o else none⟩
      have hβ2 : ∀ i b, g2.β i = some b → i < H.length ∧ g'.β i = some b := by
        intro i b hi
        have hi : (if i < H.length then g'.β i else none) = some b := hi
        split at hi
        · rename_i hl; exact ⟨hl, hi⟩
        · cases hi
      have hO2 : ∀ i o b, g2.Ow i o = some b → i < H.length ∧ g'.Ow i o = some b := by
        intro i o b hi
        have hi : (if i < H.length then g'.Ow i o else none) = some b := hi
        split at hi
        · rename_i hl; exact ⟨hl, hi⟩
        · cases hi
      have hMsame : ∀ b, (∀ i, H.length ≤ i → g'.β i ≠ some b) → ∀ o, M1 b o = g'.M b o := by
        intro b hb o
        apply Classical.byContradiction
        intro hne
        obtain ⟨i, hi, hi2⟩ := gr.new b ⟨o, hne⟩
        exact hb i hi hi2
      have hcutC : ∀ {x : C} {u : Value}, bd x ≤ H.length → RepC g' x u → RepC g2 x u := by
        intro x u hx hr
        exact RepC.mono' (g := g') (g' := g2) H.length (fun i b hi hb => by show (if i < H.length then g'.β i else none) = some b; rw [if_pos hi]; exact hb) gr.le hx hr
      have hH2 : HInv g2 (s.H.take H.length) w' := by
        have hn0 : H.length ≤ s.H.length := h.n0
        constructor
        · exact gr.mem
        · intro i b hi; have := (hβ2 i b hi).1; simp; omega
        · intro i bx b hi hb
          obtain ⟨hl, hb'⟩ := hβ2 i b hb
          rw [List.getElem?_take, if_pos hl] at hi
          obtain ⟨arr, T, h1, h2, h3⟩ := h.h.box i bx b hi hb'
          refine ⟨arr, T, h1, h2, fun j x hj => ?_⟩
          obtain ⟨v, h4, h5, h6⟩ := h3 j x hj
          refine ⟨v, h4, hcutC (by have := h.h.bnd i bx hi x (List.mem_of_getElem? hj); omega) h5, ?_⟩
          show OwnC w' M1 (if i < H.length then g'.Ow i j else none) x v
          rw [if_pos hl]
          exact h6.congr fun d hd => ⟨rfl, hMsame d fun k _ hk => h.h.owβ i j k d hd hk⟩
        · intro i bx b hi hb hlv o
          obtain ⟨hl, hb'⟩ := hβ2 i b hb
          rw [List.getElem?_take, if_pos hl] at hi
          show M1 b o = none
          rw [hMsame b (fun k hk hk2 => by have := h.h.inj i k b hb' hk2; omega) o]
          exact h.h.liv i bx b hi hb' hlv o
        · intro i bx hi x hx
          rw [List.getElem?_take] at hi
          split at hi
          · exact h.h.bnd i bx hi x hx
          · cases hi
        · intro i j b hi hj; exact h.h.inj i j b (hβ2 i b hi).2 (hβ2 j b hj).2
        · intro i o j p b hi hj; exact h.h.owinj i o j p b (hO2 _ _ _ hi).2 (hO2 _ _ _ hj).2
        · intro i o j b hi hj; exact h.h.owβ i o j b (hO2 _ _ _ hi).2 (hβ2 j b hj).2
        · intro i o b hi; exact h.h.owlt i o b (hO2 _ _ _ hi).2
      have rep2 : All2 (fun y u => RepV g2 y u ∧ (kf.mode ≠ 1 → Rep1 g2 y u)) ys us := by
        have hnt : ∀ y u, y ∈ ys → RepV ⟨g'.β, M1, g'.Ow⟩ y u → (kf.mode ≠ 1 → Rep1 ⟨g'.β, M1, g'.Ow⟩ y u) → ∀ xs, y ≠ .tup xs := by
          intro y u hy _ _ xs hxs
          subst hxs
          exact hlen.2 xs hy
        exact rep.mono fun y u hy hr => ⟨RepV.cut (g := g') hr.1 (bnd hm2 y hy) (hnt y u hy hr.1 hr.2), fun hm => Rep1.cut (g := g') (hr.2 hm) (bnd hm2 y hy)⟩
      -- what the result owns
      have hown : ∃ R, OwnV w' g2.M R (retV ys) (resOf us) ∧ ∀ b, R = some b → (Tch g A b ∨ w.heap.size ≤ b) ∧ (∀ i, g2.β i ≠ some b) ∧ (∀ i o, g2.Ow i o ≠ some b) ∧ b < w'.heap.size := by
        by_cases hno : noOwn (retV ys)
        · exact ⟨none, OwnV.of_noOwn hno, fun b hb => by cases hb⟩
        · obtain ⟨e0, sz, rows, u, hy1, hu1⟩ := retV_own rep.len hno
          subst hy1 hu1
          obtain ⟨t, hu, het⟩ := own _ u rfl rfl e0 sz rows rfl
          subst hu
          have hso := h.e.own t
          rw [het] at hso
          refine ⟨S' t, OwnAt.congr hso fun b hb => ⟨rfl, hMsame b fun i _ hi => h.e.β t i b hb hi⟩, fun b hb => ⟨h.ST t b hb, fun i hi => h.e.β t i b hb (hβ2 i b hi).2, fun i o hi => h.e.Ow t i o b hb (hO2 i o b hi).2, h.e.lt t b hb⟩⟩
      obtain ⟨R, ho, hR⟩ := hown
      refine ⟨_, g2, R, rfl, retV_rep rep2 hlk, ho, hH2, ?_⟩
      exact ⟨h.same, fun b o v hv => gr.le b o v (h.M b o v hv), hkeepM, fun i hi => by
          show (if i < H.length then g'.β i else none) = _
          rw [if_pos hi]; exact h.βold i hi,
        fun i b hi => h.βT i b (hβ2 i b hi).2, fun i o b hi => h.OwT i o b (hO2 i o b hi).2, hR, by rw [List.length_take]; exact Nat.le_min.2 ⟨Nat.le_refl _, h.n0⟩⟩
  rcases he with rfl | rfl
  · exact ⟨h.defs, _, hresults, key⟩
  · exact ⟨h.defs, _, hresults, key⟩

/-- SOUNDNESS: what a call of the abstract machine comes to, the model's call returns. -/
theorem pcall_sound {fns : Nat → Option KFn} {ext : Callee} (hk : ∀ f kf, fns f = some kf → chkFn P f kf = true) (hx : CalleeOK P ext) (hxb : BodyOK P ext) : ∀ n, CalleeOK P (pcallN fns ext n) ∧ BodyOK P (pcallN fns ext n)
  | 0 => ⟨fun f args H r H' h => by simp [pcallN] at h, fun f args H r H' h => by simp [pcallN] at h⟩
  | n + 1 => by
    obtain ⟨ih1, ih2⟩ := pcall_sound hk hx hxb n
    constructor
    · intro f args H r H' h
      simp only [pcallN] at h
      split at h
      · rename_i kf hkf
        split at h
        · rename_i hn
          split at h
          · rename_i s hs; exact fn_sound ih1 ih2 (hk f kf hkf) hn hs (.inl rfl) h
          · rename_i s hs; exact fn_sound ih1 ih2 (hk f kf hkf) hn hs (.inr rfl) h
          · cases h
        · cases h
      · exact hx f args H r H' h
    · intro f args H r H' h
      simp only [pcallN] at h
      split at h
      · rename_i kf hkf
        have := hk f kf hkf
        unfold chkFn at this
        split at this
        · simp only [Bool.and_eq_true] at this; exact this.1.2
        · cases this
      · exact hxb f args H r H' h
end
end Go.Ab
