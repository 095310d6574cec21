/-
  Regions whose operations go in an order that isn't fixed; what is left behind a scope.
  Conditions: the callees' contracts.
-/
import Derived.Test.YtnnjmbblpmghfaaGreatK
import Derived.Test.YtnnjmbblpmghfaaGreatN
set_option linter.unusedSimpArgs false
set_option linter.unusedVariables false
namespace Go.Ab
/-- A quiet operation doesn't look at memory. -/
theorem iop_quiet {call : Callee} {e : Env} {H : Heap} {x : IOp} (hq : hsI x = false) {s' : St} (h : iop call ⟨e, H⟩ x = some s') (H2 : Heap) : s'.H = H ∧ iop call ⟨e, H2⟩ x = some ⟨s'.env, H2⟩ := by
  have key : ∀ {x : Op'}, hsX x = false → ∀ {s' : St}, step call ⟨e, H⟩ x = some s' → s'.H = H ∧ step call ⟨e, H2⟩ x = some ⟨s'.env, H2⟩ := by
    intro x hq s' h
    cases x with
    | q d q =>
      simp only [step] at h ⊢
      have hv : qv e H2 q = qv e H q := by cases q <;> first | rfl | (simp [hsX] at hq)
      rw [hv]
      split at h
      · rename_i v e1; cases h; exact ⟨rfl, rfl⟩
      · cases h
    | tk d x => simp only [step] at h ⊢; cases h; exact ⟨rfl, rfl⟩
    | bsl d e' sz n z ps =>
      simp only [step] at h ⊢
      split at h
      case h_2 => cases h
      split at h
      case h_2 => cases h
      split at h
      · rename_i hz; cases h; simp only [if_pos hz]; exact ⟨trivial, trivial⟩
      · cases h
    | app d e' sz b x y =>
      simp only [step] at h ⊢
      split at h
      · split at h
        case isFalse => cases h
        split at h
        case isFalse => cases h
        split at h
        case isFalse => cases h
        split at h
        case isFalse => cases h
        rename_i c1 c2 c3 c4
        cases h; simp only [if_pos c1, if_pos c2, if_pos c3, if_pos c4]; exact ⟨trivial, trivial⟩
      · split at h
        case isFalse => cases h
        split at h
        case isFalse => cases h
        split at h
        case isFalse => cases h
        rename_i c1 c2 c3
        cases h; simp only [if_pos c1, if_pos c2, if_pos c3]; exact ⟨trivial, trivial⟩
      · cases h
    | _ => simp [hsX] at hq
  cases x with
  | o x => exact key hq h
  | g t want d x =>
    simp only [iop] at h ⊢
    split at h
    case h_3 => cases h
    case h_2 => cases h; exact ⟨rfl, rfl⟩
    split at h
    · rename_i p hp; rw [if_pos hp]; exact key hq h
    · rename_i p hp; rw [if_neg hp]; cases h; exact ⟨rfl, rfl⟩

/-! ### What the text says of the orders -/
abbrev Item := IOp × Bool × List (List Nat)
def maskOf (m : List Nat) (o : Oper) : Nat := o.after.toList.foldr (fun e acc => if Region.binds .any e then ((2 ^ e.on) ||| m.getD e.on 0) ||| acc else acc) 0
def bmsGo : List Nat → List Oper → List Nat
  | acc, [] => acc
  | acc, o :: os => bmsGo (acc ++ [maskOf acc o]) os
def bms (ops : List Oper) : List Nat := bmsGo [] ops
def memN (t : Nat) (l : List Nat) : Bool := l.any fun u => Nat.beq t u
def conf (x y : IOp) : Bool := (wrI x).any (fun t => memN t (nmI y) || memN t (wrI y)) || (wrI y).any (fun t => memN t (nmI x))
def subs : List Nat → List (List Nat)
  | [] => [[]]
  | x :: xs => subs xs ++ (subs xs).map (x :: ·)
def poss (m : List Nat) (es : List Nat) (i : Nat) (F : List Nat) : Bool :=
  !memN i F && es.all (fun p => !(m.getD i 0).testBit p || memN p F) && F.all (fun q => !(m.getD q 0).testBit i && es.all (fun p => !(m.getD q 0).testBit p || memN p F))
def chkDG (m : List Nat) (ops : List Oper) (items : List Item) : Bool :=
  (List.range items.length).all fun i => match ops[i]?, items[i]? with
    | some o, some (x, e, adm) =>
      Nat.beq (m.getD i 0) (maskOf m o) && o.after.toList.all (fun d => !Region.binds .any d || Nat.blt d.on i) &&
      ((List.range i).all fun j => match items[j]? with
        | some (y, _, _) => !conf y x || (m.getD i 0).testBit j
        | none => false) &&
      (if hsI x then !adm.isEmpty && (subs (effs items)).all (fun F => !poss m (effs items) i F || adm.contains F) else !e)
    | _, _ => false
def chkD (P : Program) (nt : Nat) (ops : Array Oper) (items : List Item) : Bool :=
  chkL P nt ops ops.toList (items.map (·.1)) && chkDG (bms ops.toList) ops.toList items

theorem memN_iff {t : Nat} {l : List Nat} : memN t l = true ↔ t ∈ l := by
  simp only [memN, List.any_eq_true]
  constructor
  · rintro ⟨u, h1, h2⟩; rw [Nat.eq_of_beq_eq_true h2]; exact h1
  · intro h; exact ⟨t, h, Nat.beq_refl t⟩
theorem mem_subs (p : Nat → Bool) : ∀ l : List Nat, l.filter p ∈ subs l
  | [] => by simp [subs]
  | x :: xs => by
    have ih := mem_subs p xs
    simp only [subs, List.mem_append, List.mem_map, List.filter_cons]
    split
    · exact .inr ⟨_, ih, rfl⟩
    · exact .inl ih
theorem maskOf_spec {m : List Nat} {o : Oper} {p : Nat} (h : (maskOf m o).testBit p = true) : ∃ d ∈ o.after.toList, Region.binds .any d = true ∧ (d.on = p ∨ (m.getD d.on 0).testBit p = true) := by
  unfold maskOf at h
  generalize o.after.toList = l at h ⊢
  induction l with
  | nil => simp at h
  | cons d ds ih =>
    simp only [List.foldr_cons] at h
    split at h
    · rename_i hb
      simp only [Nat.testBit_or, Bool.or_eq_true, Nat.testBit_two_pow, decide_eq_true_eq] at h
      rcases h with (h | h) | h
      · exact ⟨d, by simp, hb, .inl h⟩
      · exact ⟨d, by simp, hb, .inr h⟩
      · obtain ⟨d', h1, h2⟩ := ih h; exact ⟨d', by simp [h1], h2⟩
    · obtain ⟨d', h1, h2⟩ := ih h; exact ⟨d', by simp [h1], h2⟩
theorem effsGo_mem : ∀ {items : List Item} {k i : Nat}, i ∈ effsGo k items ↔ ∃ j x adm, items[j]? = some (x, true, adm) ∧ i = k + j
  | [], k, i => by simp [effsGo]
  | (x, e, adm) :: r, k, i => by
    have ih := effsGo_mem (items := r) (k := k + 1) (i := i)
    have hr : (∃ j y adm', r[j]? = some (y, true, adm') ∧ i = k + 1 + j) ↔ ∃ j y adm', ((x, e, adm) :: r)[j + 1]? = some (y, true, adm') ∧ i = k + (j + 1) := by
      constructor
      · rintro ⟨j, y, a, h1, h2⟩; exact ⟨j, y, a, by simpa using h1, by omega⟩
      · rintro ⟨j, y, a, h1, h2⟩; exact ⟨j, y, a, by simpa using h1, by omega⟩
    cases e with
    | true =>
      simp only [effsGo, if_true, List.mem_cons, ih, hr]
      constructor
      · rintro (h | ⟨j, y, a, h1, h2⟩)
        · exact ⟨0, x, adm, rfl, by omega⟩
        · exact ⟨j + 1, y, a, h1, h2⟩
      · rintro ⟨j, y, a, h1, h2⟩
        cases j with
        | zero => exact .inl (by omega)
        | succ j => exact .inr ⟨j, y, a, h1, h2⟩
    | false =>
      simp only [effsGo, Bool.false_eq_true, if_false, ih, hr]
      constructor
      · rintro ⟨j, y, a, h1, h2⟩; exact ⟨j + 1, y, a, h1, h2⟩
      · rintro ⟨j, y, a, h1, h2⟩
        cases j with
        | zero => simp at h1
        | succ j => exact ⟨j, y, a, h1, h2⟩
theorem mem_effs {items : List Item} {i : Nat} : i ∈ effs items ↔ ∃ x adm, items[i]? = some (x, true, adm) := by
  unfold effs
  rw [effsGo_mem]
  constructor
  · rintro ⟨j, x, a, h1, h2⟩; rw [h2, Nat.zero_add]; exact ⟨x, a, h1⟩
  · rintro ⟨x, a, h⟩; exact ⟨i, x, a, h, by omega⟩

theorem effsGo_app (x : IOp) (e : Bool) (adm : List (List Nat)) : ∀ (l : List Item) (k : Nat), effsGo k (l ++ [(x, e, adm)]) = effsGo k l ++ (if e then [k + l.length] else [])
  | [], k => by cases e <;> rfl
  | (y, e', a') :: r, k => by
    have ih := effsGo_app x e adm r (k + 1)
    rw [List.cons_append]
    cases e' <;> simp only [effsGo, ih, Bool.false_eq_true, if_false, if_true, List.cons_append, List.length_cons] <;> rw [show k + 1 + r.length = k + (r.length + 1) by omega]
theorem runD_app {call : Callee} (y : Item) : ∀ (xs : List Item) (s : St), runD call s (xs ++ [y]) = (match runD call s xs with
    | some s1 => runD call s1 [y]
    | none => none)
  | [], s => rfl
  | (x, e, ad) :: xs, s => by
    simp only [List.cons_append, runD]
    split
    · split
      · rw [runD_app]; rfl
      · rfl
    · rfl
/-- In the order of the text alone: then any order comes to the same. -/
theorem DR_of_plain {call : Callee} {items : List Item} (hp : plainD items = true) {s s' : St} (h : runD call s items = some s') : DR call items s s' := by
  simp only [plainD, List.all_eq_true, List.mem_range] at hp
  have hst : ∀ i, i ≤ items.length → ∃ t, runD call s (items.take i) = some t := by
    intro i hi
    have : ∀ j, i + j ≤ items.length → (∃ t, runD call s (items.take (i + j)) = some t) → ∃ t, runD call s (items.take i) = some t := by
      intro j
      induction j with
      | zero => exact fun _ h => h
      | succ j ih =>
        intro hj ⟨t, ht⟩
        refine ih (by omega) ?_
        have : items.take (i + (j + 1)) = items.take (i + j) ++ [items[i + j]] := by rw [← Nat.add_assoc]; exact List.take_succ_eq_append_getElem (by omega)
        rw [this, runD_app] at ht
        split at ht
        · rename_i s1 h1; exact ⟨s1, h1⟩
        · cases ht
    exact this (items.length - i) (by omega) ⟨s', by rw [show i + (items.length - i) = items.length by omega, List.take_length]; exact h⟩
  let tr : Nat → St := fun i => (runD call s (items.take i)).getD s
  have htr : ∀ i, i ≤ items.length → runD call s (items.take i) = some (tr i) := by
    intro i hi
    obtain ⟨t, ht⟩ := hst i hi
    show _ = some ((runD call s (items.take i)).getD s)
    rw [ht]; rfl
  have hstep : ∀ i x e adm, items[i]? = some (x, e, adm) → iop call (tr i) x = some (tr (i + 1)) ∧ (e = true ∨ (tr (i + 1)).H = (tr i).H) := by
    intro i x e adm hx
    obtain ⟨hi, hx⟩ := List.getElem?_eq_some_iff.1 hx
    have h1 := htr (i + 1) hi
    rw [List.take_succ_eq_append_getElem hi, runD_app, htr i (by omega), hx] at h1
    simp only [runD] at h1
    split at h1
    · rename_i s1 hs1
      split at h1
      · rename_i hc; cases h1; exact ⟨hs1, hc⟩
      · cases h1
    · cases h1
  let hv : List Nat → Heap := fun F => (tr (match F.getLast? with | none => 0 | some j => j + 1)).H
  have hpre : ∀ i x e adm, items[i]? = some (x, e, adm) → preE items (i + 1) = preE items i ++ (if e then [i] else []) := by
    intro i x e adm hx
    obtain ⟨hi, hx⟩ := List.getElem?_eq_some_iff.1 hx
    unfold preE effs
    rw [List.take_succ_eq_append_getElem hi, hx, effsGo_app, List.length_take, Nat.min_eq_left (by omega), Nat.zero_add]
  have hhv : ∀ i, i ≤ items.length → hv (preE items i) = (tr i).H := by
    intro i
    induction i with
    | zero => intro _; rfl
    | succ i ih =>
      intro hi
      obtain ⟨x, e, adm, hx⟩ : ∃ x e adm, items[i]? = some (x, e, adm) := ⟨items[i].1, items[i].2.1, items[i].2.2, List.getElem?_eq_getElem hi⟩
      rw [hpre i x e adm hx]
      cases e with
      | true => simp only [if_true, hv, List.getLast?_append, List.getLast?_singleton, Option.some_or]
      | false =>
        simp only [Bool.false_eq_true, if_false, List.append_nil]
        rw [ih (by omega)]
        exact ((hstep i x false adm hx).2.resolve_left (by simp)).symm
  have h0 : tr 0 = s := rfl
  refine ⟨fun i => (tr i).env, hv, congrArg St.env h0, congrArg St.H h0, ?_, ?_, ?_⟩
  · show (tr items.length).env = _
    have := htr items.length (Nat.le_refl _)
    rw [List.take_length, h] at this
    cases this; rfl
  · have := hhv items.length (Nat.le_refl _)
    unfold preE at this
    rw [List.take_length] at this
    rw [this]
    have := htr items.length (Nat.le_refl _)
    rw [List.take_length, h] at this
    cases this; rfl
  · intro i x e adm hx
    obtain ⟨h1, h2⟩ := hstep i x e adm hx
    have hi : i < items.length := (List.getElem?_eq_some_iff.1 hx).1
    have hp := hp i hi
    rw [hx] at hp
    simp only [Bool.and_eq_true, beq_iff_eq] at hp
    constructor
    · intro hq
      exact (iop_quiet hq h1 s.H).2
    · intro hq F hF
      rw [hp.1] at hF
      rw [List.mem_singleton.1 hF, hhv i (by omega)]
      have h1 : iop call ⟨(tr i).env, (tr i).H⟩ x = _ := h1
      rw [h1]
      have : hv (if e = true then insF (effs items) (preE items i) i else preE items i) = (tr (i + 1)).H := by
        have hpi := hpre i x e adm hx
        cases e with
        | true =>
          have h2 := hp.2
          simp only [if_true, beq_iff_eq] at h2
          simp only [if_true]
          rw [h2]; exact hhv (i + 1) hi
        | false =>
          simp only [Bool.false_eq_true, if_false, List.append_nil] at hpi ⊢
          rw [← hpi]; exact hhv (i + 1) hi
      rw [this]

section
variable {P : Program} {fx : Fx} {g : Gh} {S : Nat → Option Nat} {s : St} {a : Act} {w : World} {Qx : Exit → Act → World → Prop}

theorem chkL_get {ops : Array Oper} : ∀ {os : List Oper} {xs : List IOp}, chkL P fx.nt ops os xs = true → os.length = xs.length ∧ ∀ (i : Nat) o x, os[i]? = some o → xs[i]? = some x → chkI P fx.nt ops o x = true
  | [], [], _ => ⟨rfl, fun i o x h => by simp at h⟩
  | [], _ :: _, h => by simp [chkL] at h
  | _ :: _, [], h => by simp [chkL] at h
  | o :: os, x :: xs, h => by
    simp only [chkL, Bool.and_eq_true] at h
    obtain ⟨h1, h2⟩ := chkL_get h.2
    refine ⟨by simp [h1], fun i o' x' ho hx => ?_⟩
    cases i with
    | zero => simp only [List.getElem?_cons_zero, Option.some.injEq] at ho hx; subst ho hx; exact h.1
    | succ i => exact h2 i o' x' (by simpa using ho) (by simpa using hx)

/-- What holds when the operations 'listed' have run. -/
structure DI (items : List Item) (m : List Nat) (es : Nat → Env) (hv : List Nat → Heap) (listed : Array Bool) (sE : St) : Prop where
  sz : listed.size = items.length
  cl : ∀ j, listed.getD j false = true → ∀ p, (m.getD j 0).testBit p = true → listed.getD p false = true
  env : ∀ t k, k ≤ items.length → (∀ (i : Nat) x, i < k → items[i]? = some x → t ∈ wrI x.1 → listed.getD i false = true) → (∀ (i : Nat) x, k ≤ i → items[i]? = some x → t ∈ wrI x.1 → listed.getD i false = false) → sE.env t = es k t
  H : sE.H = hv ((effs items).filter fun j => listed.getD j false)

theorem getD_set {l : Array Bool} {i j : Nat} (hi : i < l.size) : (l.setIfInBounds i true).getD j false = (if j = i then true else l.getD j false) := by
  rw [Array.getD_eq_getD_getElem?, Array.getD_eq_getD_getElem?]
  by_cases e : j = i
  · subst e; simp [hi]
  · rw [Array.getElem?_setIfInBounds_ne (fun h => e h.symm)]; simp [e]

theorem dreg_sound {call : Callee} (hcal : CalleeOK P call) (hbody : BodyOK P call) {ops : Array Oper} {items : List Item} (hc : chkD P fx.nt ops items = true) {s s' : St} (hdr : DR call items s s') (h : Sim fx s a w)
    (hQ : ∀ a' w', Sim fx s' a' w' → Qx .normal a' w') : wpAny P .any ops Qx ops.size (Array.replicate ops.size false) a w := by
  obtain ⟨es, hv, e0, h0, en, hn, hd⟩ := hdr
  simp only [chkD, Bool.and_eq_true] at hc
  obtain ⟨hcl, hcg⟩ := hc
  obtain ⟨hlen, hget⟩ := chkL_get hcl
  have hlen : ops.size = items.length := by simpa using hlen
  generalize hm : bms ops.toList = m at hcg
  unfold chkDG at hcg
  rw [List.all_eq_true] at hcg
  have hG : ∀ i o x e adm, ops[i]? = some o → items[i]? = some (x, e, adm) →
      m.getD i 0 = maskOf m o ∧ (∀ d ∈ o.after.toList, Region.binds .any d = true → d.on < i) ∧
      (∀ j y e' adm', j < i → items[j]? = some (y, e', adm') → conf y x = true → (m.getD i 0).testBit j = true) ∧
      (hsI x = true → adm ≠ [] ∧ ∀ F ∈ subs (effs items), poss m (effs items) i F = true → F ∈ adm) ∧ (hsI x = false → e = false) := by
    intro i o x e adm ho hx
    have hi : i < items.length := (List.getElem?_eq_some_iff.1 hx).1
    have := hcg i (List.mem_range.2 hi)
    rw [show ops.toList[i]? = some o by simpa using ho, hx] at this
    simp only [Bool.and_eq_true, List.all_eq_true] at this
    obtain ⟨⟨⟨h1, h2⟩, h3⟩, h4⟩ := this
    refine ⟨Nat.eq_of_beq_eq_true h1, fun d hd hb => ?_, fun j y e' adm' hj hy hcf => ?_, fun hs => ?_, fun hs => ?_⟩
    · have := h2 d hd
      rw [hb] at this
      simpa [Nat.blt_eq] using this
    · have := h3 j (List.mem_range.2 hj)
      rw [hy] at this
      simpa [hcf] using this
    · rw [if_pos hs] at h4
      simp only [Bool.and_eq_true, Bool.not_eq_true', List.isEmpty_eq_false_iff, List.all_eq_true] at h4
      refine ⟨h4.1, fun F hF hp => ?_⟩
      have := h4.2 F hF
      rw [hp] at this
      simpa using this
    · rw [if_neg (by simp [hs])] at h4
      simpa using h4
  have hops : ∀ (i : Nat) (x : Item), items[i]? = some x → ∃ o, ops[i]? = some o ∧ chkI P fx.nt ops o x.1 = true := by
    intro i x hx
    have hi : i < ops.size := by rw [hlen]; exact (List.getElem?_eq_some_iff.1 hx).1
    exact ⟨ops[i], Array.getElem?_eq_getElem hi, hget i ops[i] x.1 (by simp) (by simp [hx])⟩
  -- what an operation doesn't write
  have hnw : ∀ (i : Nat) (x : Item), items[i]? = some x → ∀ t, t ∉ wrI x.1 → es (i + 1) t = es i t := by
    intro i ⟨x, e, adm⟩ hx t ht
    obtain ⟨d1, d2⟩ := hd i x e adm hx
    obtain ⟨o, ho, _⟩ := hops i _ hx
    cases hs : hsI x with
    | false => exact (iop_loc (e2 := es i) (d1 hs) (fun _ _ => rfl)).2 t ht
    | true =>
      obtain ⟨F, hF⟩ := List.exists_mem_of_ne_nil _ ((hG i o x e adm ho hx).2.2.2.1 hs).1
      exact (iop_loc (e2 := es i) (d2 hs F hF) (fun _ _ => rfl)).2 t ht
  have hnw' : ∀ t i k, i ≤ k → k ≤ items.length → (∀ (j : Nat) (x : Item), i ≤ j → j < k → items[j]? = some x → t ∉ wrI x.1) → es k t = es i t := by
    intro t i k hik
    induction k with
    | zero => intro _ _; rw [Nat.le_zero.1 hik]
    | succ k ih =>
      intro hk hw
      by_cases e : i = k + 1
      · rw [e]
      · have hk' : k < items.length := by omega
        rw [hnw k items[k] (List.getElem?_eq_getElem hk') t (hw k _ (by omega) (by omega) (List.getElem?_eq_getElem hk'))]
        exact ih (by omega) (by omega) fun j x h1 h2 => hw j x h1 (by omega)
  have hready : ∀ (listed : Array Bool) i, listed.size = items.length → (i ∈ Region.ready .any ops listed ↔ ∃ o, ops[i]? = some o ∧ listed.getD i false = false ∧ ∀ d ∈ o.after.toList, Region.binds .any d = true → listed.getD d.on false = true) := by
    intro listed i hsz
    simp only [Region.ready, List.mem_filter, List.mem_range, Bool.and_eq_true, Bool.not_eq_true']
    constructor
    · rintro ⟨h1, h2, h3⟩
      have h1' : i < listed.size := by omega
      refine ⟨ops[i], Array.getElem?_eq_getElem h1, ?_, ?_⟩
      · rw [Array.getD_eq_getD_getElem?, Array.getElem?_eq_getElem h1'] at h2 ⊢; exact h2
      · rw [Array.getElem?_eq_getElem h1] at h3
        simp only [Option.map_some, Option.getD_some, Array.all_eq_true'] at h3
        intro d hd hb
        have := h3 d (by simpa using hd)
        rw [hb] at this
        simpa using this
    · rintro ⟨o, ho, h2, h3⟩
      have h1 : i < ops.size := (Array.getElem?_eq_some_iff.1 ho).1
      have h1' : i < listed.size := by omega
      refine ⟨h1, ?_, ?_⟩
      · rw [Array.getD_eq_getD_getElem?, Array.getElem?_eq_getElem h1'] at h2 ⊢; exact h2
      · rw [ho]
        simp only [Option.map_some, Option.getD_some, Array.all_eq_true']
        intro d hd
        cases hb : Region.binds .any d with
        | false => simp
        | true => simpa using h3 d (by simpa using hd) hb
  -- the steps
  have main : ∀ (fuel : Nat) (listed : Array Bool) (sE : St) (a : Act) (w : World), DI items m es hv listed sE → Sim fx sE a w → (∃ U : List Nat, U.length ≤ fuel ∧ ∀ j, j < items.length → listed.getD j false = false → j ∈ U) → wpAny P .any ops Qx fuel listed a w := by
    have hfin : ∀ (listed : Array Bool) (sE : St) (a : Act) (w : World), DI items m es hv listed sE → Sim fx sE a w → (∀ j, j < items.length → listed.getD j false = true) → Qx .normal a w := by
      intro listed sE a w hI h hall
      refine hQ a w ?_
      have : sE = s' := by
        have h1 : sE.env = s'.env := by
          funext t
          rw [← en]
          exact hI.env t items.length (Nat.le_refl _) (fun i x hi _ _ => hall i hi) (fun i x hi hx => by have := (List.getElem?_eq_some_iff.1 hx).1; omega)
        have h2 : sE.H = s'.H := by
          rw [hI.H, ← hn]
          congr 1
          rw [List.filter_eq_self]
          intro j hj
          obtain ⟨x, ad, hx⟩ := mem_effs.1 hj
          exact hall j (List.getElem?_eq_some_iff.1 hx).1
        cases sE; cases s'; simp only at h1 h2; rw [h1, h2]
      rw [← this]; exact h
    intro fuel
    induction fuel with
    | zero =>
      rintro listed sE a w hI h ⟨U, hU, hU2⟩
      have hall : ∀ j, j < items.length → listed.getD j false = true := by
        intro j hj
        cases hb : listed.getD j false with
        | true => rfl
        | false =>
          have := hU2 j hj hb
          rw [List.length_eq_zero_iff.1 (Nat.le_zero.1 hU)] at this
          simp at this
      refine ⟨?_, hfin listed sE a w hI h hall⟩
      apply List.eq_nil_iff_forall_not_mem.2
      intro i hi
      obtain ⟨o, ho, h2, _⟩ := (hready listed i hI.sz).1 hi
      rw [hall i (by rw [← hlen]; exact (Array.getElem?_eq_some_iff.1 ho).1)] at h2
      cases h2
    | succ fuel ih =>
      rintro listed sE a w hI h ⟨U, hU, hU2⟩
      constructor
      · intro hnil
        refine hfin listed sE a w hI h ?_
        intro j
        induction j using Nat.strongRecOn with
        | ind j ihj =>
          intro hj
          cases hb : listed.getD j false with
          | true => rfl
          | false =>
            obtain ⟨o, ho, _⟩ := hops j items[j] (List.getElem?_eq_getElem hj)
            have : j ∈ Region.ready .any ops listed := (hready listed j hI.sz).2 ⟨o, ho, hb, fun d hd hbd => by
              have := (hG j o items[j].1 items[j].2.1 items[j].2.2 ho (List.getElem?_eq_getElem hj)).2.1 d hd hbd
              exact ihj d.on this (by omega)⟩
            rw [hnil] at this
            simp at this
      · intro i hi
        obtain ⟨o, ho, hb, hall⟩ := (hready listed i hI.sz).1 hi
        have hil : i < items.length := by rw [← hlen]; exact (Array.getElem?_eq_some_iff.1 ho).1
        obtain ⟨x, e, adm, hx⟩ : ∃ x e adm, items[i]? = some (x, e, adm) := ⟨items[i].1, items[i].2.1, items[i].2.2, List.getElem?_eq_getElem hil⟩
        obtain ⟨o', ho', hck⟩ := hops i _ hx
        rw [ho] at ho'; cases ho'
        obtain ⟨g1, g2, g3, g4, g5⟩ := hG i o x e adm ho hx
        have hpre : ∀ p, (m.getD i 0).testBit p = true → listed.getD p false = true := by
          intro p hp
          rw [g1] at hp
          obtain ⟨d, hd1, hd2, hd3⟩ := maskOf_spec hp
          have hld := hall d hd1 hd2
          rcases hd3 with rfl | hd3
          · exact hld
          · exact hI.cl _ hld p hd3
        have hpost : ∀ (j : Nat) (y : Item), i < j → items[j]? = some y → (m.getD j 0).testBit i = true → listed.getD j false = false := by
          intro j y hj hy hp
          cases hlj : listed.getD j false with
          | false => rfl
          | true => rw [hI.cl j hlj i hp] at hb; cases hb
        have hconf1 : ∀ {y z : IOp} {t : Nat}, t ∈ wrI y → t ∈ nmI z ++ wrI z → conf y z = true := by
          intro y z t h1 h2
          simp only [conf, Bool.or_eq_true, List.any_eq_true]
          rcases List.mem_append.1 h2 with h2 | h2
          · exact .inl ⟨t, h1, .inl (memN_iff.2 h2)⟩
          · exact .inl ⟨t, h1, .inr (memN_iff.2 h2)⟩
        have hconf2 : ∀ {y z : IOp} {t : Nat}, t ∈ wrI z → t ∈ nmI y ++ wrI y → conf y z = true := by
          intro y z t h1 h2
          simp only [conf, Bool.or_eq_true, List.any_eq_true]
          rcases List.mem_append.1 h2 with h2 | h2
          · exact .inr ⟨t, h1, memN_iff.2 h2⟩
          · exact .inl ⟨t, h2, .inr (memN_iff.2 h1)⟩
        have hloc : ∀ t ∈ nmI x ++ wrI x, sE.env t = es i t := by
          intro t ht
          refine hI.env t i (by omega) (fun j y hj hy hw => ?_) (fun j y hj hy hw => ?_)
          · obtain ⟨y, e', ad⟩ := y
            exact hpre j (g3 j y e' ad hj hy (hconf1 hw ht))
          · by_cases ej : j = i
            · rw [ej]; exact hb
            · obtain ⟨y, e', ad⟩ := y
              obtain ⟨oj, hoj, _⟩ := hops j _ hy
              exact hpost j _ (by omega) hy ((hG j oj y e' ad hoj hy).2.2.1 i x e adm (by omega) hx (hconf2 hw ht))
        obtain ⟨d1, d2⟩ := hd i x e adm hx
        -- it runs, wherever it comes
        have hrun : iop call ⟨es i, sE.H⟩ x = some ⟨es (i + 1), hv ((effs items).filter fun j => (listed.setIfInBounds i true).getD j false)⟩ := by
          have hfil : ∀ j, (listed.setIfInBounds i true).getD j false = (if j = i then true else listed.getD j false) := fun j => getD_set (by rw [hI.sz]; exact hil)
          cases hs : hsI x with
          | false =>
            have he := g5 hs
            have := (iop_quiet hs (d1 hs) sE.H).2
            rw [this]
            congr 2
            rw [hI.H]
            congr 1
            apply List.filter_congr
            intro j hj
            rw [hfil]
            split
            · rename_i ej; subst ej
              obtain ⟨x', ad', hx'⟩ := mem_effs.1 hj
              rw [hx] at hx'
              simp only [Option.some.injEq, Prod.mk.injEq] at hx'
              rw [he] at hx'
              exact absurd hx'.2.1 (by simp)
            · rfl
          | true =>
            have hmem : ((effs items).filter fun j => listed.getD j false) ∈ adm := by
              refine (g4 hs).2 _ (mem_subs _ _) ?_
              simp only [poss, Bool.and_eq_true, Bool.not_eq_true', List.all_eq_true, Bool.or_eq_true]
              refine ⟨⟨?_, fun p hp => ?_⟩, fun q hq => ⟨?_, fun p hp => ?_⟩⟩
              · cases hc : memN i ((effs items).filter fun j => listed.getD j false) with
                | false => rfl
                | true => have := memN_iff.1 hc; rw [List.mem_filter, hb] at this; simp at this
              · cases hp2 : (m.getD i 0).testBit p with
                | false => exact .inl rfl
                | true => exact .inr (memN_iff.2 (List.mem_filter.2 ⟨hp, hpre p hp2⟩))
              · have hq2 := (List.mem_filter.1 hq).2
                cases hp2 : (m.getD q 0).testBit i with
                | false => rfl
                | true => rw [hI.cl q hq2 i hp2] at hb; cases hb
              · have hq2 := (List.mem_filter.1 hq).2
                cases hp2 : (m.getD q 0).testBit p with
                | false => exact .inl rfl
                | true => exact .inr (memN_iff.2 (List.mem_filter.2 ⟨hp, hI.cl q hq2 p hp2⟩))
            have := d2 hs _ hmem
            rw [hI.H, this]
            congr 3
            split
            · rename_i he
              unfold insF
              apply List.filter_congr
              intro j hj
              rw [hfil]
              by_cases ej : j = i
              · simp [ej]
              · have hbe : (j == i) = false := by simpa using ej
                rw [hbe, Bool.or_false, if_neg ej]
                cases hlj : listed.getD j false with
                | true => exact List.contains_iff_mem.2 (List.mem_filter.2 ⟨hj, hlj⟩)
                | false =>
                  cases hcc : List.contains _ j with
                  | false => rfl
                  | true => have := (List.mem_filter.1 (List.contains_iff_mem.1 hcc)).2; rw [hlj] at this; cases this
            · rename_i he
              apply List.filter_congr
              intro j hj
              rw [hfil]
              split
              · rename_i ej; subst ej
                obtain ⟨x', ad', hx'⟩ := mem_effs.1 hj
                rw [hx] at hx'
                simp only [Option.some.injEq, Prod.mk.injEq] at hx'
                exact absurd hx'.2.1 he
              · rfl
        obtain ⟨hr1, hr2⟩ := iop_loc (e2 := sE.env) hrun hloc
        have hr1 : iop call sE x = _ := hr1
        refine iop_sound hcal hbody ho hck hr1 h ?_
        intro a' w' h'
        refine ih _ _ a' w' ?_ h' ⟨U.erase i, ?_, ?_⟩
        · have hfil : ∀ j, (listed.setIfInBounds i true).getD j false = (if j = i then true else listed.getD j false) := fun j => getD_set (by rw [hI.sz]; exact hil)
          constructor
          · simp [hI.sz]
          · intro j hj p hp
            rw [hfil] at hj ⊢
            split
            · rfl
            · split at hj
              · rename_i ej; rw [ej] at hp; exact hpre p hp
              · exact hI.cl j hj p hp
          · intro t k hk h1 h2
            simp only [hfil] at h1 h2
            simp only [mrg]
            by_cases ht : t ∈ wrI x
            · rw [if_pos ht]
              have hik : i < k := by
                apply Classical.byContradiction
                intro hh
                have := h2 i _ (by omega) hx ht
                simp at this
              symm
              refine hnw' t (i + 1) k (by omega) hk fun j y hj1 hj2 hy hw => ?_
              obtain ⟨y, e', ad⟩ := y
              have := h1 j _ hj2 hy hw
              rw [if_neg (by omega)] at this
              obtain ⟨oj, hoj, _⟩ := hops j _ hy
              have hp := (hG j oj y e' ad hoj hy).2.2.1 i x e adm (by omega) hx (hconf1 ht (List.mem_append.2 (.inr hw)))
              rw [hpost j _ (by omega) hy hp] at this
              cases this
            · rw [if_neg ht]
              refine hI.env t k hk (fun j y hj hy hw => ?_) (fun j y hj hy hw => ?_)
              · have := h1 j y hj hy hw
                split at this
                · rename_i ej; subst ej; rw [hx] at hy; cases hy; exact absurd hw ht
                · exact this
              · have := h2 j y hj hy hw
                split at this
                · cases this
                · exact this
          · rfl
        · have : i ∈ U := hU2 i hil hb
          rw [List.length_erase_of_mem this]; omega
        · intro j hj hlj
          rw [getD_set (by rw [hI.sz]; exact hil)] at hlj
          split at hlj
          · cases hlj
          · rename_i ej; exact (List.mem_erase_of_ne ej).2 (hU2 j hj hlj)
  refine main ops.size _ s a w ?_ h ⟨List.range items.length, by simp [hlen], fun j hj _ => List.mem_range.2 hj⟩
  have hf : ∀ j, (Array.replicate ops.size false).getD j false = false := by
    intro j
    rw [Array.getD_eq_getD_getElem?, Array.getElem?_replicate]
    split <;> rfl
  constructor
  · simp [hlen]
  · intro j hj; rw [hf] at hj; cases hj
  · intro t k hk h1 h2
    rw [← e0]
    refine (hnw' t 0 k (by omega) hk fun j y _ hj hy hw => ?_).symm
    have := h1 j y hj hy hw
    rw [hf] at this; cases this
  · rw [← h0]
    congr 1
    symm
    apply List.filter_eq_nil_iff.2
    intro j _
    rw [hf]; simp
end
end Go.Ab
