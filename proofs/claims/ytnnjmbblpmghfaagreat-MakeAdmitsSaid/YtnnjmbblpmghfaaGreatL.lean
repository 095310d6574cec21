/-
  A whole function: what the abstract machine's call comes to, the model's call returns.
  Conditions: the callees' contracts.
-/
import Derived.Test.YtnnjmbblpmghfaaGreatR
set_option linter.unusedSimpArgs false
set_option linter.unusedVariables false
namespace Go.Ab
section
variable {P : Program} {fx : Fx} {g : Gh} {S : Nat → Option Nat} {s : St} {a : Act} {w : World}

/-- Memory that stays, grown by what is handed back. -/
structure GrowOK (g : Gh) (n0 : Nat) (w : World) (M : Mem) : Prop where
  le : ∀ b o v, g.M b o = some v → M b o = some v
  mem : ∀ b o v, M b o = some v → w.cell? ⟨b, o, none⟩ = some v
  new : ∀ b, (∃ o, M b o ≠ g.M b o) → ∃ i, n0 ≤ i ∧ g.β i = some b

theorem RepC.growM {M M' : Mem} (h : ∀ b o v, M b o = some v → M' b o = some v) {β : Nat → Option Nat} {Ow : Nat → Nat → Option Nat} {x : C} {v : Value} (r : RepC ⟨β, M, Ow⟩ x v) : RepC ⟨β, M', Ow⟩ x v :=
  RepC.mono (g := ⟨β, M, Ow⟩) (g' := ⟨β, M', Ow⟩) ⟨fun _ _ h => h, h⟩ r

theorem resVal_rep (hh : HInv g s.H w) {n0 mode : Nat} {x y : C} (hy : resVal n0 mode s.H x = some y) {u : Value} (r : RepC g x u) {M0 : Mem} (h0 : GrowOK g n0 w M0) :
    ∃ M1, GrowOK g n0 w M1 ∧ (∀ b o v, M0 b o = some v → M1 b o = some v) ∧ RepC ⟨g.β, M1, g.Ow⟩ y u ∧ (mode ≠ 1 → noOwnC y) ∧ (mode = 2 → M1 = M0) ∧ y ≠ .undef ∧ (∀ e sz rows, y = .own e sz rows → y = x) := by
  have plain : ∀ {z : C}, z = y → RepC g z u → noOwnC z → z ≠ .undef → ∃ M1, GrowOK g n0 w M1 ∧ (∀ b o v, M0 b o = some v → M1 b o = some v) ∧ RepC ⟨g.β, M1, g.Ow⟩ y u ∧ (mode ≠ 1 → noOwnC y) ∧ (mode = 2 → M1 = M0) ∧ y ≠ .undef ∧ (∀ e sz rows, y = .own e sz rows → y = x) := by
    intro z hz hr hn hu
    subst hz
    exact ⟨M0, h0, fun _ _ _ h => h, RepC.growM (M := g.M) (Ow := g.Ow) (β := g.β) h0.le hr, fun _ => hn, fun _ => rfl, hu, fun e sz rows he => by subst he; exact hn.elim⟩
  cases x with
  | d x => simp only [resVal] at hy; cases hy; exact plain rfl r trivial (by simp)
  | nilp => simp only [resVal] at hy; cases hy; exact plain rfl r trivial (by simp)
  | ptr id off => simp only [resVal] at hy; cases hy; exact plain rfl r trivial (by simp)
  | cptr row off => simp only [resVal] at hy; cases hy; exact plain rfl r trivial (by simp)
  | fn f fs cs => simp only [resVal] at hy; cases hy; exact plain rfl r trivial (by simp)
  | undef => simp [resVal] at hy
  | nil sz =>
    simp only [resVal] at hy
    split at hy <;> cases hy
    · exact plain rfl r trivial (by simp)
    · refine plain (z := .d (.l sz [])) rfl ?_ trivial (by simp)
      simp only [RepC] at r; subst r; exact RepD.l0 _ _ _
  | own e sz rows =>
    simp only [resVal] at hy
    split at hy <;> cases hy
    · rename_i hm
      exact ⟨M0, h0, fun _ _ _ h => h, RepC.growM (M := g.M) (Ow := g.Ow) (β := g.β) h0.le r, fun h => absurd hm h, fun _ => rfl, by simp, fun _ _ _ _ => rfl⟩
    · exact plain (z := .d (.l sz rows)) rfl r trivial (by simp)
  | view id off len sz =>
    simp only [resVal] at hy
    split at hy
    · cases hy; exact plain rfl r trivial (by simp)
    · rename_i hm2
      split at hy
      · rename_i hid
        split at hy
        case h_2 => cases hy
        rename_i rows hrows
        cases hy
        obtain ⟨b, cap, hb, rfl, hcap⟩ := r
        unfold viewRows at hrows
        split at hrows
        case h_2 => cases hrows
        rename_i bx hbx
        split at hrows
        case isFalse => cases hrows
        rename_i hle
        split at hrows
        case h_2 => cases hrows
        rename_i l hl
        cases hrows
        obtain ⟨arr, T, h1, h2, h3⟩ := hh.box id bx b hbx hb
        have hll : l.length = len * sz := by rw [allD_len hl]; simp; omega
        obtain ⟨c1, c2, c3⟩ := chop_spec hll
        let M1 : Mem := fun b' o => if b' = b ∧ off ≤ o ∧ o < off + len * sz then w.cell? ⟨b', o, none⟩ else M0 b' o
        have hle01 : ∀ b o v, M0 b o = some v → M1 b o = some v := by
          intro b' o v hv
          show (if b' = b ∧ off ≤ o ∧ o < off + len * sz then w.cell? ⟨b', o, none⟩ else M0 b' o) = some v
          split
          · exact h0.mem b' o v hv
          · exact hv
        have hG : GrowOK g n0 w M1 := by
          refine ⟨fun b o v hv => hle01 b o v (h0.le b o v hv), ?_, ?_⟩
          · intro b' o v hv
            have hv : (if b' = b ∧ off ≤ o ∧ o < off + len * sz then w.cell? ⟨b', o, none⟩ else M0 b' o) = some v := hv
            split at hv
            · exact hv
            · exact h0.mem b' o v hv
          · intro b' ⟨o, hne⟩
            by_cases e : b' = b
            · subst e; exact ⟨id, hid, hb⟩
            · refine h0.new b' ⟨o, ?_⟩
              intro he
              apply hne
              show (if b' = b ∧ off ≤ o ∧ o < off + len * sz then w.cell? ⟨b', o, none⟩ else M0 b' o) = _
              rw [if_neg (fun h => e h.1)]; exact he
        refine ⟨M1, hG, hle01, ?_, fun _ => trivial, fun hm => absurd hm hm2, by simp, fun _ _ _ h => by cases h⟩
        show RepD M1 (.l sz (chop sz len l)) _
        by_cases hl0 : len = 0
        · subst hl0
          simp only [chop]
          exact .l0 _ _ _
        · have hcells : All2 (RepC g) ((bx.cells.drop off).take (len * sz)) ((arr.toList.drop off).take (len * sz)) := by
            refine All2.of_get (by simp; omega) ?_
            intro j c u hc hu
            rw [getElem?_take_drop] at hc hu
            split at hc
            · rename_i hj
              rw [if_pos hj] at hu
              obtain ⟨u', hu', hr, _⟩ := h3 _ c hc
              have : u' = u := by
                have e : arr.toList[off + j]? = arr[off + j]? := by simp
                rw [e, hu'] at hu; injection hu
              subst this
              exact hr
            · cases hc
          have hD := allD_repC hl hcells
          have := RepD.l (M := M1) sz (chop sz len l) b off cap (fun k => (arr[off + k]?).getD undef) (by intro e; rw [e] at c2; simp at c2; omega) (by rw [c2]; exact hcap) c3
            (fun k x hk => by
              rw [c1] at hk
              have hkl : k < len * sz := by rw [← hll]; exact (List.getElem?_eq_some_iff.1 hk).1
              show (if b = b ∧ off ≤ off + k ∧ off + k < off + len * sz then w.cell? ⟨b, off + k, none⟩ else M0 b (off + k)) = _
              rw [if_pos ⟨rfl, by omega, by omega⟩, cell_of_row w b (off + k) arr T (0, 0) h1]
              have : off + k < arr.size := by omega
              simp [this])
            (fun k x hk => by
              rw [c1] at hk
              obtain ⟨u, hu, hr⟩ := hD.get k x hk
              rw [getElem?_take_drop] at hu
              split at hu
              · have e : arr.toList[off + k]? = arr[off + k]? := by simp
                rw [e] at hu
                show RepD M1 x ((arr[off + k]?).getD undef)
                rw [hu]; exact hr.mono hG.le
              · cases hu)
          rw [c2] at this
          exact this
      · cases hy; exact plain rfl r trivial (by simp)

theorem resVals_rep (hh : HInv g s.H w) {n0 mode : Nat} (hm : mode ≠ 1) : ∀ {xs ys : List C} {us : List Value} {M0 : Mem}, resVals n0 mode s.H xs = some ys → All2 (RepC g) xs us → GrowOK g n0 w M0 →
    ∃ M1, GrowOK g n0 w M1 ∧ (∀ b o v, M0 b o = some v → M1 b o = some v) ∧ All2 (RepN ⟨g.β, M1, g.Ow⟩) ys us ∧ (mode = 2 → M1 = M0)
  | [], ys, us, M0, h, r, h0 => by
    simp only [resVals] at h; cases h; cases r
    exact ⟨M0, h0, fun _ _ _ h => h, .nil, fun _ => rfl⟩
  | x :: xs, ys, us, M0, h, r, h0 => by
    cases r with
    | cons hx hr =>
      simp only [resVals] at h
      split at h
      case h_2 => cases h
      rename_i y ys' hy hys
      cases h
      obtain ⟨M1, g1, l1, r1, n1, e1, _⟩ := resVal_rep hh hy hx h0
      obtain ⟨M2, g2, l2, r2, e2⟩ := resVals_rep hh hm hys hr g1
      exact ⟨M2, g2, fun b o v h => l2 b o v (l1 b o v h), .cons ⟨RepC.growM l2 r1, n1 hm⟩ r2, fun hm2 => by rw [e2 hm2, e1 hm2]⟩

section
variable (P : Program)
def chkRes : List ResultVar → List KRes → Bool
  | [], [] => true
  | .tmp t :: rs, .t n :: ks => t == n && chkRes rs ks
  | .cell t ty :: rs, .cell n :: ks => t == n && isPlainT P ty && chkRes rs ks
  | .cell t ty :: rs, .cells n sz :: ks => t == n && isRowT P ty && sizeT P ty sz && chkRes rs ks
  | _, _ => false
def chkFn (f : Nat) (kf : KFn) : Bool := match P.funcs[f]? with
  | some fn => (match fn.body with
    | some c => chkK P fn.ntmps c kf.body
    | none => false) && kf.nt == fn.ntmps && decide (kf.np ≤ kf.nt) && chkRes P fn.results.toList kf.res && bodyOk P f && (kf.mode != 1 || kf.res.length == 1)
  | none => false
end

/-- One value that is handed back. -/
def RepR (g : Gh) (mode : Nat) (v : V) (u : Value) : Prop := RepV g v u ∧ (mode ≠ 1 → Rep1 g v u)

/-- The model reads one result. -/
def oneRes : ResultVar → Array Value → Sem Value
  | .tmp t, tmps => pure (tmps.getD t undef)
  | .cell t ty, tmps => do loadVar ty (← asAddr (tmps.getD t undef))

theorem resOne_rep (h : SimG fx g S s a w) {n0 mode : Nat} {rv : ResultVar} {k : KRes} (hc : chkRes P [rv] [k] = true) {y : V} (hy : resOne n0 mode s k = some y) {M0 : Mem} (h0 : GrowOK g n0 w M0) :
    ∃ u M1, (oneRes rv a.tmps).run P w = .ok u w ∧ GrowOK g n0 w M1 ∧ (∀ b o v, M0 b o = some v → M1 b o = some v) ∧ RepV ⟨g.β, M1, g.Ow⟩ y u ∧ (mode ≠ 1 → Rep1 ⟨g.β, M1, g.Ow⟩ y u) ∧ (mode = 2 → M1 = M0) ∧
      (∀ e sz rows, y = .c (.own e sz rows) → ∃ t, u = a.tmps.getD t undef ∧ s.env t = y) := by
  have ne1 : (if mode = 1 then 0 else mode) ≠ 1 := by split <;> omega
  have eq2 : mode = 2 → (if mode = 1 then 0 else mode) = 2 := by intro h; subst h; rfl
  cases k with
  | t n =>
    cases rv with
    | cell => simp [chkRes] at hc
    | tmp t =>
      simp only [chkRes, Bool.and_true, beq_iff_eq] at hc
      subst hc
      have r := h.e.rep t
      simp only [resOne] at hy
      split at hy
      · rename_i x e
        split at hy
        case h_2 => cases hy
        rename_i z hz
        cases hy
        rw [e] at r
        have hx : x ≠ .undef := by intro hx; subst hx; simp [resVal] at hz
        obtain ⟨M1, g1, l1, r1, n1, e1, hu, ho⟩ := resVal_rep h.h hz (RepV.toC hx r) h0
        exact ⟨_, M1, rfl, g1, l1, RepC.toV r1, fun hm => ⟨r1, n1 hm⟩, e1, fun e' sz rows he => ⟨t, rfl, by cases he; rw [e, ho _ _ _ rfl]⟩⟩
      · rename_i xs e
        split at hy
        case h_2 => cases hy
        rename_i zs hz
        cases hy
        rw [e] at r
        obtain ⟨us, hus, hr⟩ := r
        obtain ⟨M1, g1, l1, r1, e1⟩ := resVals_rep h.h ne1 hz (hr.mono fun _ _ _ h => h.1) h0
        exact ⟨_, M1, rfl, g1, l1, ⟨us, hus, r1⟩, fun _ => ⟨us, hus, r1⟩, fun hm => e1 (eq2 hm), fun _ _ _ he => by cases he⟩
      · cases hy
  | cell n =>
    cases rv with
    | tmp => simp [chkRes] at hc
    | cell t ty =>
      simp only [chkRes, Bool.and_true, Bool.and_eq_true, beq_iff_eq] at hc
      obtain ⟨rfl, ht⟩ := hc
      have r := h.e.rep t
      simp only [resOne] at hy
      split at hy
      case h_2 => cases hy
      rename_i id off e
      rw [e] at r
      obtain ⟨b, hb, eu⟩ := RepV.ptr r
      split at hy
      case h_2 => cases hy
      rename_i x hx
      split at hy
      case h_2 => cases hy
      rename_i z hz
      cases hy
      obtain ⟨u, hu, hr, hn⟩ := loadC_rep h.h hb hx
      obtain ⟨M1, g1, l1, r1, n1, e1, _⟩ := resVal_rep h.h hz hr h0
      have hl := run_load_plain (P := P) ht hu
      simp only [Instr.loadAt, Instr.sureAddr, Sem.run_bind, Sem.run_pure, Result.andThen_ok] at hl
      refine ⟨u, M1, by simp only [oneRes, eu, asAddr, Sem.run_bind, Sem.run_pure, Result.andThen_ok, hl], g1, l1, RepC.toV r1, fun _ => ⟨r1, n1 ne1⟩, fun hm => e1 (eq2 hm), fun e' sz rows he => ?_⟩
      have := n1 ne1
      cases he
      exact this.elim
  | cells n sz =>
    cases rv with
    | tmp => simp [chkRes] at hc
    | cell t ty =>
      simp only [chkRes, Bool.and_true, Bool.and_eq_true, beq_iff_eq] at hc
      obtain ⟨⟨rfl, ht⟩, hs⟩ := hc
      have r := h.e.rep t
      simp only [resOne] at hy
      split at hy
      case h_2 => cases hy
      rename_i id off e
      rw [e] at r
      obtain ⟨b, hb, eu⟩ := RepV.ptr r
      split at hy
      case h_2 => cases hy
      rename_i xs hx
      split at hy
      case h_2 => cases hy
      rename_i zs hz
      cases hy
      obtain ⟨us, hl, hr, ha⟩ := loadA_rep h.h hb hx
      obtain ⟨M1, g1, l1, r1, e1⟩ := resVals_rep h.h ne1 hz (ha.mono fun _ _ _ h => h.1) h0
      have hld := run_load_row (P := P) ht hs hr hl
      simp only [Instr.loadAt, Instr.sureAddr, Sem.run_bind, Sem.run_pure, Result.andThen_ok] at hld
      exact ⟨.agg us.toArray, M1, by simp only [oneRes, eu, asAddr, Sem.run_bind, Sem.run_pure, Result.andThen_ok, hld], g1, l1, ⟨us, rfl, r1⟩, fun _ => ⟨us, rfl, r1⟩, fun hm => e1 (eq2 hm), fun _ _ _ he => by cases he⟩
end
end Go.Ab
