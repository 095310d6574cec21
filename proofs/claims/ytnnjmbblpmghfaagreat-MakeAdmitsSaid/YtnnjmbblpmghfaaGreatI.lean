/-
  append; calls.
  Conditions: the callees' contracts.
-/
import Derived.Test.YtnnjmbblpmghfaaGreatH
set_option linter.unusedSimpArgs false
set_option linter.unusedVariables false
namespace Go.Ab
section
variable {P : Program} {fx : Fx} {g : Gh} {S : Nat → Option Nat} {s : St} {a : Act} {w : World} {o : Oper} {Qx : Exit → Act → World → Prop}

/-- The kit's law on append onto one's own row; and where a new row is made, all old ones stay. -/
theorem run_own {t ty e sz bytes : Nat} {i : TypeInfo} {z : Value} (ht : P.underlying t = some (.slice e)) (hi : P.info? e = some i) (hz : i.zero = some z) (hsize : i.size = sz) (hby : i.bytes = bytes) (hzs : z.cells.size = sz) (hsz : 0 < sz)
    {v : Value} {n : Nat} {xs : List Value} (hown : w.ownsRow 0 e sz v n xs) (ad : Addr) (m c : Nat) (news : List Value) (hl : news.length = m * sz) (hnews : ∀ j u, news[j]? = some u → w.cell? (ad.add j) = some u) (h1 : ∀ u ∈ news, u.oneCell' = true)
    (h63 : n + m ≤ maxLen) (hb : (n + m) * bytes ≤ 140737488355328) :
    ∃ v' w', (Builtin.append_ #[t, t] ty #[v, .slice (some ad) m c]).run P w = .ok v' w' ∧ w'.ownsRow 0 e sz v' (n + m) (xs ++ news) ∧ w.grownBy w' v.ownBlock ∧ (v'.ownBlock = v.ownBlock ∨ (v'.ownBlock = some w.heap.size ∧ ∀ k, k < w.heap.size → w'.heap[k]? = w.heap[k]?)) := by
  obtain ⟨v', w', r1, r2, r3, _, r5⟩ := run_append_own_at (P := P) w 0 t ty e i z sz bytes ht hi hz hsize hby hzs hsz v n xs hown ad m c news hl hnews h1 h63 hb (Nat.zero_le _)
  refine ⟨v', w', r1, r2, r3, ?_⟩
  rcases r5 with r5 | r5
  · exact .inl r5
  · refine .inr ⟨r5, ?_⟩
    rcases hown.2 with ⟨rfl, _⟩ | ⟨b, cap, cur, rfl, _, hg, hnc, hcm, hcs, htake⟩
    · intro k hk
      exact r3.block k hk (by simp [Value.ownBlock])
    · by_cases hroom : n + m ≤ cap
      · exfalso
        subst hsize
        have := run_append_room (P := P) w t ty e i ht hi b n cap cur hg ad m c news hl hnews h1 hroom (by rw [hl, hcs, ← Nat.add_mul]; exact Nat.mul_le_mul_right _ hroom)
        rw [this] at r1
        injection r1 with r1 _
        subst r1
        simp only [Value.ownBlock, Option.some.injEq] at r5
        have := (Array.getElem?_eq_some_iff.1 hg).1
        omega
      · subst hsize
        have := run_append_grow (P := P) w t ty e i z ht hi hz ⟨b, 0, none⟩ n cap xs hown.1 (hown.cells (g := b) rfl) ad m c news hl hnews (by omega) (by simp only [maxLen] at h63; omega) (growslice_fits (by omega) (by rw [hby]; exact hb))
        rw [this] at r1
        injection r1 with _ r1
        subst r1
        intro k hk
        exact heap_alloc_old w.drew _ k hk

/-- The model's append onto a row of one's own, of a list that is read. -/
theorem run_app {t ty e sz bytes : Nat} {i : TypeInfo} {z : Value} (ht : P.underlying t = some (.slice e)) (hi : P.info? e = some i) (hz : i.zero = some z) (hsize : i.size = sz) (hby : i.bytes = bytes) (hzs : z.cells.size = sz) (hsz : 0 < sz)
    {v : Value} {n : Nat} {xs : List Value} (hown : w.ownsRow 0 e sz v n xs) {M : Mem} (hM : ∀ b o u, M b o = some u → w.cell? ⟨b, o, none⟩ = some u) {new : List (List D)} {u : Value} (hr : RepD M (.l sz new) u)
    (hb : (n + new.length) * bytes ≤ 140737488355328) (hb0 : 0 < bytes) :
    ∃ v' w' news, (Builtin.append_ #[t, t] ty #[v, u]).run P w = .ok v' w' ∧ All2 (RepD M) new.flatten news ∧ w'.ownsRow 0 e sz v' (n + new.length) (xs ++ news) ∧ w.grownBy w' v.ownBlock ∧
      (v'.ownBlock = v.ownBlock ∨ (v'.ownBlock = some w.heap.size ∧ ∀ k, k < w.heap.size → w'.heap[k]? = w.heap[k]?)) := by
  have h63 : n + new.length ≤ maxLen := by
    have : n + new.length ≤ (n + new.length) * bytes := Nat.le_mul_of_pos_right _ hb0
    simp only [maxLen]; omega
  cases hr with
  | l0 _ ad c =>
    cases ad with
    | none =>
      refine ⟨v, w, [], ?_, by simp; exact .nil, by simpa using hown, ⟨rfl, rfl, rfl, Nat.le_refl _, fun _ _ _ => rfl⟩, .inl rfl⟩
      rcases hown.2 with ⟨rfl, rfl⟩ | ⟨b, cap, cur, rfl, _, hg, hnc, hcm, hcs, htake⟩
      · simp [Builtin.append_, run_underlying ht, sizeOf, typeInfo, hi, Builtin.lenOf, Builtin.firstCells, loadCells, loadCellsFrom]
      · simp [Builtin.append_, run_underlying ht, sizeOf, typeInfo, hi, Builtin.lenOf, Builtin.firstCells, loadCells, loadCellsFrom, hnc, Go.storeCells]
    | some ad =>
      obtain ⟨v', w', h1, h2, h3, h5⟩ := run_own (P := P) (ty := ty) ht hi hz hsize hby hzs hsz hown ad 0 c [] (by simp) (fun j u h => by simp at h) (fun u h => by simp at h) (by simpa using h63) (by simpa using hb)
      exact ⟨v', w', [], h1, by simp; exact .nil, by simpa using h2, h3, h5⟩
  | l _ _ b o' cap f hne hcap hlen hm hR =>
    let news : List Value := (List.range new.flatten.length).map f
    have hnl : news.length = new.length * sz := by simp only [news, List.length_map, List.length_range]; exact flat_len hlen
    have hget : ∀ j u, news[j]? = some u → ∃ x, new.flatten[j]? = some x ∧ u = f j := by
      intro j u hu
      simp only [news, List.getElem?_map, Option.map_eq_some_iff] at hu
      obtain ⟨j', hj', rfl⟩ := hu
      have hj : j < new.flatten.length ∧ j' = j := by
        rw [List.getElem?_eq_some_iff] at hj'
        obtain ⟨h1, h2⟩ := hj'
        rw [List.length_range] at h1
        rw [List.getElem_range] at h2
        exact ⟨h1, h2.symm⟩
      obtain ⟨hj, rfl⟩ := hj
      exact ⟨_, List.getElem?_eq_getElem hj, rfl⟩
    have hall : All2 (RepD M) new.flatten news := by
      refine All2.of_get (by simp [news]) ?_
      intro j x u hx hu
      obtain ⟨x', _, rfl⟩ := hget j u hu
      exact hR j x hx
    obtain ⟨v', w', h1, h2, h3, h5⟩ := run_own (P := P) (ty := ty) ht hi hz hsize hby hzs hsz hown ⟨b, o', none⟩ new.length cap news hnl
      (fun j u hu => by
        obtain ⟨x, hx, rfl⟩ := hget j u hu
        rw [Addr.add_mid]; exact hM _ _ _ (hm j x hx))
      (fun u hu => by
        obtain ⟨j, hj⟩ := List.getElem?_of_mem hu
        obtain ⟨x, hx, hr⟩ := hall.get' j u hj
        exact hr.one) h63 hb
    exact ⟨v', w', news, h1, hall, h2, h3, h5⟩

theorem s_app {d e sz bytes x : Nat} {y : Opd} (hc : chkOp P fx.nt o (.app d e sz bytes x y) = true) {call : Callee} {s' : St} (hs : step call s (.app d e sz bytes x y) = some s') (h : SimG fx g S s a w) :
    o.wp P a w (fun a' w' => Sim fx s' a' w') Qx := by
  simp only [chkOp, Bool.and_eq_true, decide_eq_true_eq] at hc
  obtain ⟨⟨hd, hx⟩, hc⟩ := hc
  obtain ⟨hd, hlt⟩ := dstOk_spec hd
  split at hc
  case h_2 => cases hc
  rename_i args ats eo
  split at hc
  case h_2 => cases hc
  rename_i x' y' t t' ea et
  simp only [Bool.and_eq_true, beq_iff_eq, decide_eq_true_eq] at hc
  obtain ⟨⟨⟨⟨⟨⟨rfl, hy⟩, rfl⟩, hst⟩, hsz0⟩, hb0⟩, hinf⟩ := hc
  have hte : P.underlying t = some (.slice e) := by
    unfold sliceT at hst
    split at hst
    · rename_i e' he'; rw [he', eq_of_beq hst]
    · cases hst
  split at hinf
  case h_2 => cases hinf
  rename_i i hi
  simp only [Bool.and_eq_true, beq_iff_eq] at hinf
  obtain ⟨⟨hsize, hby⟩, hz⟩ := hinf
  split at hz
  case h_2 => cases hz
  rename_i z hzz
  have hzs := eq_of_beq hz
  have ha : args = #[.tmp x', y'] := Array.toList_inj.1 (by simpa using ea)
  have hat : ats = #[t, t] := Array.toList_inj.1 (by simpa using et)
  subst ha hat
  have hev : a.eval (.tmp x') = a.tmps.getD x' undef := rfl
  have ry := ev_rep h.e hy
  have rx := h.e.rep x'
  have ox := h.e.own x'
  have exec : ∀ {v' w'}, (Builtin.append_ #[t, t] o.type #[a.tmps.getD x' undef, a.eval y']).run P w = .ok v' w' → (execOp a.eval o).run P w = .ok (.value v') w' := by
    intro v' w' hrun
    unfold execOp
    simp only [eo, resolve, invoke, builtin, Sem.run_bind, Sem.run_pure, Result.andThen_ok, List.map_toArray, List.map_cons, List.map_nil, hev, hrun]
  -- what is common to both ways: the row, and what it holds
  have fin : ∀ {rows new : List (List D)} {cells : List Value}, w.ownsRow 0 e sz (a.tmps.getD x' undef) rows.length cells → (∀ r ∈ rows, r.length = sz) → All2 (RepD g.M) rows.flatten cells → RepD g.M (.l sz new) (a.eval y') → (rows.length + new.length) * bytes ≤ 140737488355328 →
      (a.tmps.getD x' undef).ownBlock = S x' → (∀ b, S x' = some b → ∀ o, rows.length * sz ≤ o → g.M b o = none) → (∀ b o u, S x' = some b → g.M b o = some u → cells[o]? = some u) →
      ∀ env', (∀ t, RepV g (env' t) (a.tmps.getD t undef)) → (∀ t, t ≠ x' → env' t = s.env t) → noOwn (env' x') →
      o.wp P a w (fun a' w' => Sim fx ⟨upd env' d (.c (.own e sz (rows ++ new))), s.H⟩ a' w') Qx := by
    intro rows new cells hrow hlen hcells hnew hbytes hob hspare hpre env' hrep' henv hno
    obtain ⟨v', w', news, hrun, hnews, hrow', hgrow, hat⟩ := run_app (P := P) (ty := o.type) hte hi hzz hsize hby hzs hsz0 hrow h.h.mem hnew hbytes hb0
    refine wp_value (exec hrun) ?_
    rw [hd]
    have hsame : Same w w' := ⟨hgrow.os, hgrow.tape, hgrow.output, hgrow.size⟩
    have hlen' : ∀ r ∈ rows ++ new, r.length = sz := by
      intro r hr
      rcases List.mem_append.1 hr with hr | hr
      · exact hlen r hr
      · have hl : ∀ {u : Value}, RepD g.M (.l sz new) u → ∀ r ∈ new, r.length = sz := by
          intro u hu
          cases hu with
          | l0 => intro r hr; simp at hr
          | l _ _ _ _ _ _ _ _ hl => exact hl
        exact hl hnew r hr
    -- the slot gives up its row
    have h1 : SimG fx g (fun u => if u = x' then none else S u) ⟨env', s.H⟩ a w := by
      have h0 := h.drop x'
      exact { h0 with
        e := ⟨hrep', fun t => by
          by_cases et : t = x'
          · subst et; exact OwnV.of_noOwn hno
          · show OwnV w g.M (if t = x' then none else S t) (env' t) _
            rw [if_neg et, henv t et]; exact h.e.own t, h0.e.inj, h0.e.β, h0.e.Ow, h0.e.lt⟩ }
    have hSx : ∀ b, S x' = some b → ∀ t, (fun u => if u = x' then none else S u) t ≠ some b := by
      intro b hb t ht
      by_cases et : t = x'
      · simp [et] at ht
      · simp only [if_neg et] at ht; exact et (h.e.inj t x' b ht hb)
    have hmemrow : ∀ b, S x' = some b → ∀ o u, g.M b o = some u → w'.cell? ⟨b, o, none⟩ = some u := by
      intro b hb o u hm
      have hc := hpre b o u hb hm
      rcases hat with hat | ⟨_, hat⟩
      · have := hrow'.cells (g := b) (by rw [hat, hob]; exact hb) o u (by rw [List.getElem?_append_left (List.getElem?_eq_some_iff.1 hc).1]; exact hc)
        rwa [Addr.add_mid, Nat.zero_add] at this
      · rw [World.cell?_of_block (a := ⟨b, o, none⟩) (hat b (h.e.lt x' b hb))]
        exact h.h.mem b o u hm
    have h2 := h1.world2 hsame (a.tmps.getD x' undef).ownBlock hgrow.block (by
      intro b hb
      rw [hob] at hb
      exact ⟨fun i hi => h.e.β x' i b hb hi, fun i o hi => h.e.Ow x' i o b hb hi, hSx b hb, h.ST x' b hb, hmemrow b hb⟩)
    have h3 := h2.putOwn (d := d) (e := e) (sz := sz) (rows := rows ++ new) (v := v') (cells := cells ++ news) hlt (by rw [List.length_append]; exact hrow') hsz0 hlen' (by rw [List.flatten_append]; exact hcells.app hnews)
      (by
        intro b o u hb hm
        rcases hat with hat | ⟨hat, _⟩
        · rw [hat, hob] at hb
          have hc := hpre b o u hb hm
          rw [List.getElem?_append_left (List.getElem?_eq_some_iff.1 hc).1]; exact hc
        · rw [hat] at hb; cases hb
          exact absurd (h.h.Mlt hm) (Nat.lt_irrefl _))
      (by
        intro b hb
        rcases hat with hat | ⟨hat, _⟩
        · rw [hat, hob] at hb
          exact ⟨fun i hi => h.e.β x' i b hb hi, fun i o hi => h.e.Ow x' i o b hb hi, hSx b hb, h.ST x' b hb⟩
        · rw [hat] at hb; cases hb
          exact ⟨fun i hi => absurd (h.h.βlt hi) (Nat.lt_irrefl _), fun i o hi => absurd (h.h.owlt _ _ _ hi) (Nat.lt_irrefl _), fun t ht => by
            by_cases et : t = x'
            · simp [et] at ht
            · simp only [if_neg et] at ht; exact absurd (h.e.lt _ _ ht) (Nat.lt_irrefl _), .inr h.same.size⟩)
    exact h3
  have lens : ∀ {new : List (List D)} {u : Value}, RepD g.M (.l sz new) u → ∀ r ∈ new, r.length = sz := by
    intro new u hu
    cases hu with
    | l0 => intro r hr; simp at hr
    | l _ _ _ _ _ _ _ _ hl => exact hl
  simp only [step] at hs
  split at hs
  · -- onto a list of one's own
    rename_i e' sz' rows sz'' new e1 e2
    split at hs
    case isFalse => cases hs
    rename_i he; subst he
    split at hs
    case isFalse => cases hs
    rename_i hs1; subst hs1
    split at hs
    case isFalse => cases hs
    rename_i hs2; subst hs2
    split at hs
    case isFalse => cases hs
    rename_i hbytes
    cases hs
    rw [e1] at rx ox
    rw [e2] at ry
    obtain ⟨cells, hrow, hob, _, hsp⟩ := ox
    have rx : RepD g.M (.l sz'' rows) (a.tmps.getD x' undef) := rx
    have hl : (∀ r ∈ rows, r.length = sz'') ∧ All2 (RepD g.M) rows.flatten cells ∧ (∀ b o u, S x' = some b → g.M b o = some u → cells[o]? = some u) := by
      clear fin exec hev
      generalize a.tmps.getD x' undef = v at *
      have hcl := hrow.1
      cases rx with
      | l0 _ ad c =>
        have : cells = [] := List.eq_nil_of_length_eq_zero (by simpa using hcl)
        subst this
        exact ⟨fun r hr => by simp at hr, by simp; exact .nil, fun b o u hb hm => by rw [hsp b hb o (by simp)] at hm; cases hm⟩
      | l _ _ b o' cap f hne hcap hlen hm hR =>
        refine ⟨hlen, ?_, ?_⟩
        · refine All2.of_get (by rw [flat_len hlen, hcl]) ?_
          intro k x u hx hu
          have h1 := h.h.mem _ _ _ (hm k x hx)
          rcases hrow.2 with ⟨e1, _⟩ | ⟨b', cap', cur, e1, _, hg, _, _, _, htake⟩
          · cases e1
          · injection e1 with e1 e2 e3
            injection e1 with e1
            injection e1 with e1 e4
            subst e1 e4
            have h2 := hrow.cells (g := b) rfl k u hu
            rw [Addr.add_mid] at h2
            rw [h2] at h1
            injection h1 with h1
            rw [h1]; exact hR k x hx
        · intro b2 o u hb hmm
          have hb2 : b2 = b := by rw [← hob] at hb; simp only [Value.ownBlock, Option.some.injEq] at hb; exact hb.symm
          subst hb2
          have hlt : o < rows.length * sz'' := by
            apply Classical.byContradiction
            intro hh
            rw [hsp b2 hb o (by omega)] at hmm; cases hmm
          have h1 := h.h.mem _ _ _ hmm
          have hoc : o < cells.length := by rw [hcl]; exact hlt
          have h2 := hrow.cells (g := b2) rfl o _ (List.getElem?_eq_getElem hoc)
          rw [Addr.add_mid, Nat.zero_add] at h2
          rw [h2] at h1
          injection h1 with h1
          rw [List.getElem?_eq_getElem hoc, h1]
    exact fin hrow hl.1 hl.2.1 ry hbytes hob hsp hl.2.2 (upd s.env x' (.c (.d (.l sz'' rows))))
      (fun t => by
        by_cases et : t = x'
        · simp only [upd, if_pos et]; rw [et]; exact rx
        · simp only [upd, if_neg et]; exact h.e.rep t) (fun t et => by simp only [upd, if_neg et]) (by simp [upd, noOwn])
  · -- onto nil
    rename_i sz' sz'' new e1 e2
    split at hs
    case isFalse => cases hs
    rename_i hs1; subst hs1
    split at hs
    case isFalse => cases hs
    rename_i hs2; subst hs2
    split at hs
    case isFalse => cases hs
    rename_i hbytes
    cases hs
    rw [e1] at rx
    rw [e2] at ry
    have rx : a.tmps.getD x' undef = .slice none 0 0 := rx
    obtain ⟨v', w', news, hrun, hnews, hrow', hgrow, hat⟩ := run_app (P := P) (ty := o.type) (w := w) hte hi hzz hsize hby hzs hsz0 (World.ownsRow_nil w 0 e sz'') h.h.mem ry (by simpa using hbytes) hb0
    rw [← rx] at hrun
    refine wp_value (exec hrun) ?_
    rw [hd]
    have hsame : Same w w' := ⟨hgrow.os, hgrow.tape, hgrow.output, hgrow.size⟩
    have h2 := h.world hsame (fun b hb => hgrow.block b hb (by simp [Value.ownBlock]))
    exact h2.putOwn (d := d) (e := e) (sz := sz'') (rows := new) (v := v') (cells := news) hlt (by simpa using hrow') hsz0 (lens ry) hnews
      (by
        intro b o u hb hm
        rcases hat with hat | ⟨hat, _⟩
        · rw [hat] at hb; simp [Value.ownBlock] at hb
        · rw [hat] at hb; cases hb
          exact absurd (h.h.Mlt hm) (Nat.lt_irrefl _))
      (by
        intro b hb
        rcases hat with hat | ⟨hat, _⟩
        · rw [hat] at hb; simp [Value.ownBlock] at hb
        · rw [hat] at hb; cases hb
          exact ⟨fun i hi => absurd (h.h.βlt hi) (Nat.lt_irrefl _), fun i o hi => absurd (h.h.owlt _ _ _ hi) (Nat.lt_irrefl _), fun t ht => absurd (h.e.lt _ _ ht) (Nat.lt_irrefl _), .inr h.same.size⟩)
  · cases hs
end
end Go.Ab
