/-
  Boxes that are written, lists that grow: the relation between the abstract machine and the model goes on.
  Conditions: none; lemmas.
-/
import Derived.Test.YtnnjmbblpmghfaaGreatE
set_option linter.unusedSimpArgs false
set_option linter.unusedVariables false
namespace Go.Ab
section
variable {P : Program} {fx : Fx} {g : Gh} {S : Nat → Option Nat} {s : St} {a : Act} {w : World}

theorem putAt_get : ∀ {xs cs cs' : List C} {off : Nat}, putAt cs off xs = some cs' → cs'.length = cs.length ∧ (∀ j, cs'[j]? = if off ≤ j ∧ j < off + xs.length then xs[j - off]? else cs[j]?) ∧ ∀ k, k < xs.length → off + k < cs.length
  | [], cs, cs', off, h => by
    simp only [putAt] at h; cases h
    refine ⟨rfl, fun j => ?_, fun k hk => by simp at hk⟩
    rw [if_neg (by simp)]
  | x :: xs, cs, cs', off, h => by
    simp only [putAt] at h
    split at h
    · rename_i hlt
      obtain ⟨h1, h2, h3⟩ := putAt_get h
      refine ⟨by rw [h1]; simp, fun j => ?_, fun k hk => ?_⟩
      · rw [h2 j]
        by_cases e : j = off
        · subst e
          rw [if_neg (by omega), if_pos (by simp)]
          simp [hlt]
        · by_cases hc : off + 1 ≤ j ∧ j < off + 1 + xs.length
          · rw [if_pos hc, if_pos (by simp; omega)]
            rw [show j - off = (j - (off + 1)) + 1 by omega]; simp
          · rw [if_neg hc, if_neg (by simp; omega)]
            rw [List.getElem?_set_ne (fun h => e h.symm)]
      · cases k with
        | zero => simpa using hlt
        | succ k => have := h3 k (by simpa using hk); simp at this; omega
    · cases h

theorem setCells_heap (b : Nat) : ∀ (vs : List Value) (o : Nat) (w : World) (arr : Array Value) (T : TypeId) (fr : Nat × Nat), w.heap[b]? = some (.cells arr T fr) →
    ∃ arr', (w.setCells b o vs).heap[b]? = some (.cells arr' T fr) ∧ arr'.size = arr.size ∧ (∀ j, arr'[j]? = if o ≤ j ∧ j < o + vs.length ∧ j < arr.size then vs[j - o]? else arr[j]?)
  | [], o, w, arr, T, fr, h => ⟨arr, h, rfl, fun j => by rw [if_neg (by simp; omega)]⟩
  | v :: vs, o, w, arr, T, fr, h => by
    have h1 : (w.setCell ⟨b, o, none⟩ v).heap[b]? = some (.cells (arr.setIfInBounds o v) T fr) := by
      simp [World.setCell, Array.getElem?_modify, h]
    obtain ⟨arr', e1, e2, e3⟩ := setCells_heap b vs (o + 1) _ _ T fr h1
    refine ⟨arr', e1, by rw [e2]; simp, fun j => ?_⟩
    rw [e3 j]
    by_cases e : j = o
    · subst e
      rw [if_neg (by omega)]
      by_cases hj : j < arr.size
      · rw [if_pos (by simp; omega)]; simp [hj]
      · rw [if_neg (by omega)]; simp [hj]
    · by_cases hc : o + 1 ≤ j ∧ j < o + 1 + vs.length ∧ j < (arr.setIfInBounds o v).size
      · rw [if_pos hc, if_pos (by simp at hc ⊢; omega)]
        rw [show j - o = (j - (o + 1)) + 1 by omega]; simp
      · rw [if_neg hc, if_neg (by simp at hc ⊢; omega)]
        rw [Array.getElem?_setIfInBounds_ne (fun h => e h.symm)]
theorem setCells_other (b : Nat) : ∀ (vs : List Value) (o : Nat) (w : World) (c : Nat), c ≠ b → (w.setCells b o vs).heap[c]? = w.heap[c]?
  | [], _, _, _, _ => rfl
  | v :: vs, o, w, c, h => by
    show ((w.setCell ⟨b, o, none⟩ v).setCells b (o + 1) vs).heap[c]? = _
    rw [setCells_other b vs (o + 1) _ c h]
    simp only [World.setCell, Array.getElem?_modify]
    rw [if_neg (fun e => h e.symm)]
theorem setCells_same (b : Nat) : ∀ (vs : List Value) (o : Nat) (w : World), Same w (w.setCells b o vs)
  | [], _, w => Same.refl w
  | v :: vs, o, w => by
    have h : Same w (w.setCell ⟨b, o, none⟩ v) := ⟨rfl, rfl, rfl, by simp [World.setCell]⟩
    exact h.trans (setCells_same b vs (o + 1) _)

/-- A box's cells are others, and who owns what of its lists. -/
theorem HInv.setBox {H : Heap} (h : HInv g H w) {id b : Nat} {bx : Box} (hi : H[id]? = some bx) (hb : g.β id = some b) {w' : World} (hs : w.heap.size ≤ w'.heap.size) (hoth : ∀ c, c ≠ b → w'.heap[c]? = w.heap[c]?)
    {arr : Array Value} {T : TypeId} (hnew : w'.heap[b]? = some (.cells arr T (0, 0))) {cs : List C} (hl : cs.length ≤ arr.size) {Ow : Nat → Nat → Option Nat}
    (hcells : ∀ j c, cs[j]? = some c → ∃ v, arr[j]? = some v ∧ RepC g c v ∧ OwnC w' g.M (Ow id j) c v) (hmem : ∀ b o v, g.M b o = some v → w'.cell? ⟨b, o, none⟩ = some v) (hbnd : ∀ c ∈ cs, bd c ≤ id + 1)
    {lv : Bool} (hlv : lv = true → ∀ o, g.M b o = none) (hOw : ∀ i j, i ≠ id → Ow i j = g.Ow i j) (owinj : ∀ i o j p b, Ow i o = some b → Ow j p = some b → i = j ∧ o = p) (owβ : ∀ i o j b, Ow i o = some b → g.β j = some b → False)
    (owlt : ∀ i o b, Ow i o = some b → b < w'.heap.size) : HInv { g with Ow := Ow } (H.set id ⟨lv, cs⟩) w' := by
  have hidl : id < H.length := (List.getElem?_eq_some_iff.1 hi).1
  have hle : g.le { g with Ow := Ow } := ⟨fun _ _ h => h, fun _ _ _ h => h⟩
  constructor
  · exact hmem
  · intro i c hc; rw [List.length_set]; exact h.dom i c hc
  · intro i bx' c hx hc
    by_cases e : i = id
    · subst e
      have hcb : c = b := by have : g.β i = some c := hc; rw [hb] at this; injection this with this; exact this.symm
      subst hcb
      rw [List.getElem?_set_self hidl] at hx
      cases hx
      refine ⟨arr, T, hnew, hl, fun j x hj => ?_⟩
      obtain ⟨v, h1, h2, h3⟩ := hcells j x hj
      exact ⟨v, h1, RepC.mono hle h2, h3⟩
    · rw [List.getElem?_set_ne (fun h => e h.symm)] at hx
      have hcb : c ≠ b := fun e' => e (h.inj i id b (e' ▸ hc) hb)
      obtain ⟨arr', T', h1, h2, h3⟩ := h.box i bx' c hx hc
      refine ⟨arr', T', by rw [hoth c hcb]; exact h1, h2, fun j x hj => ?_⟩
      obtain ⟨v, h4, h5, h6⟩ := h3 j x hj
      refine ⟨v, h4, RepC.mono hle h5, ?_⟩
      show OwnC w' g.M (Ow i j) x v
      rw [hOw i j e]
      exact h6.congr fun d hd => ⟨hoth d (fun e' => h.owβ i j id d hd (e' ▸ hb)), fun _ => rfl⟩
  · intro i bx' c hx hc hl'
    by_cases e : i = id
    · subst e
      have hcb : c = b := by have : g.β i = some c := hc; rw [hb] at this; injection this with this; exact this.symm
      subst hcb
      rw [List.getElem?_set_self hidl] at hx
      cases hx
      exact hlv hl'
    · rw [List.getElem?_set_ne (fun h => e h.symm)] at hx
      exact h.liv i bx' c hx hc hl'
  · intro i bx' hx x hxm
    by_cases e : i = id
    · subst e
      rw [List.getElem?_set_self hidl] at hx
      cases hx
      exact hbnd x hxm
    · rw [List.getElem?_set_ne (fun h => e h.symm)] at hx
      exact h.bnd i bx' hx x hxm
  · exact h.inj
  · exact owinj
  · exact owβ
  · exact owlt

/-- A store into a box that may be written. -/
theorem SimG.store (h : SimG fx g S s a w) {id b off : Nat} {H' : Heap} (hb : g.β id = some b) {xs : List C} {us : List Value} (hr : All2 (RepN g) xs us) (hst : storeCells s.H id off xs = some H') :
    SimG fx g S ⟨s.env, H'⟩ a (w.setCells b off us) ∧ w.there b off us.length := by
  unfold storeCells at hst
  split at hst
  · rename_i bx hbx
    split at hst
    · rename_i hlv
      split at hst
      · rename_i hbd
        split at hst
        · rename_i cs hcs
          cases hst
          obtain ⟨arr, T, h1, h2, h3⟩ := h.h.box id bx b hbx hb
          obtain ⟨p1, p2, p3⟩ := putAt_get hcs
          obtain ⟨arr', e1, e2, e3⟩ := setCells_heap b us off w arr T (0, 0) h1
          have hl := hr.len
          have hMb := h.h.liv id bx b hbx hb hlv
          have hblt := h.h.βlt hb
          have hoth := setCells_other b us off w
          have hsame := setCells_same b us off w
          constructor
          · have hH : HInv { g with Ow := g.Ow } (s.H.set id ⟨true, cs⟩) (w.setCells b off us) := by
              refine h.h.setBox hbx hb hsame.size hoth e1 (by rw [p1, e2]; exact h2) ?_ ?_ ?_ (fun _ => hMb) (fun _ _ _ => rfl) h.h.owinj h.h.owβ (fun i o c hc => Nat.lt_of_lt_of_le (h.h.owlt i o c hc) hsame.size)
              · intro j c hj
                rw [p2 j] at hj
                split at hj
                · rename_i hjr
                  obtain ⟨u, hu, hrr⟩ := hr.get _ _ hj
                  refine ⟨u, ?_, hrr.1, by cases c <;> first | trivial | exact hrr.2.elim⟩
                  rw [e3 j, if_pos ⟨hjr.1, by omega, by have := p3 (j - off) (by omega); omega⟩]
                  exact hu
                · rename_i hjr
                  obtain ⟨v, h4, h5, h6⟩ := h3 j c hj
                  refine ⟨v, ?_, h5, h6.congr fun d hd => ⟨hoth d (fun e => h.h.owβ id j id d hd (e ▸ hb)), fun _ => rfl⟩⟩
                  rw [e3 j, if_neg (by omega)]; exact h4
              · intro c o v hm
                have hne : c ≠ b := fun e => by subst e; rw [hMb o] at hm; cases hm
                rw [World.cell?_of_block (a := ⟨c, o, none⟩) (hoth c hne)]
                exact h.h.mem c o v hm
              · intro c hc
                obtain ⟨j, hj⟩ := List.getElem?_of_mem hc
                rw [p2 j] at hj
                split at hj
                · have : bd c ≤ bdA xs := by
                    have : ∀ {l : List C}, c ∈ l → bd c ≤ bdA l := by
                      intro l
                      induction l with
                      | nil => intro h; simp at h
                      | cons y ys ih =>
                        intro h
                        simp only [bdA]
                        rcases List.mem_cons.1 h with rfl | h
                        · omega
                        · have := ih h; omega
                    exact this (List.mem_of_getElem? hj)
                  omega
                · exact h.h.bnd id bx hbx c (List.mem_of_getElem? hj)
            have hTb : fx.T b ∨ fx.w0.heap.size ≤ b := h.βT id b hb
            exact
              { h := hH
                e := ⟨h.e.rep, fun t => (h.e.own t).congr fun d hd => ⟨hoth d (fun e => h.e.β t id d hd (e ▸ hb)), fun _ => rfl⟩, h.e.inj, h.e.β, h.e.Ow, fun t d hd => Nat.lt_of_lt_of_le (h.e.lt t d hd) hsame.size⟩
                sz := h.sz
                defs := h.defs
                same := h.same.trans hsame
                n0 := by simpa using h.n0
                M := h.M
                keep := fun c hl' hT => by
                  have hne : c ≠ b := fun e => by subst e; rcases hTb with h' | h' <;> first | exact hT h' | omega
                  exact ⟨by rw [hoth c hne]; exact (h.keep c hl' hT).1, (h.keep c hl' hT).2⟩
                βold := h.βold
                βT := h.βT
                OwT := h.OwT
                ST := h.ST }
          · intro j hj
            have hlt : off + j < arr.size := by have := p3 j (by omega); omega
            constructor
            · rw [cell_of_row w b (off + j) arr T (0, 0) h1]; simp [hlt]
            · simp [World.frozen?, h1]
        · cases hst
      · cases hst
    · cases hst
  · cases hst
end
end Go.Ab
