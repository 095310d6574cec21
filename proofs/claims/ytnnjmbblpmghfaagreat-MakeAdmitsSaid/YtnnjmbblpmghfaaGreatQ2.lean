/-
  The arguments of the laws on scripts: what has the type's form is a configuration, a track, a script.
  Conditions: none.
-/
import Derived.Test.YtnnjmbblpmghfaaGreatQ1
import Derived.Test.YtnnjmbblpmghfaaGreatSd
import Derived.Test.YtnnjmbblpmghfaaGreatProg
import Derived.KernelRfl
set_option linter.unusedSimpArgs false
set_option linter.unusedVariables false
namespace Go.Ab
open Go.Proofs
section
variable {P : Program} {n : Nat} {t e : TypeId} {xs : List D}
theorem ty_int {k : IntKind} (hu : P.underlying t = some (.int k)) (h : HasTy P n t xs) : ∃ x, xs = [.i k x] := by
  cases n with
  | zero => exact h.elim
  | succ n => simp only [HasTy, hu] at h; obtain ⟨x, h, _⟩ := h; exact ⟨x, h⟩
theorem rows_typed {α : Type} {f : α → List D} {Q : α → Prop} : ∀ {rows : List (List D)}, (∀ r ∈ rows, ∃ x, f x = r ∧ Q x) → ∃ l : List α, rows = l.map f ∧ ∀ x ∈ l, Q x
  | [], _ => ⟨[], rfl, fun x hx => by cases hx⟩
  | r :: rows, h => by
    obtain ⟨x, hx, hq⟩ := h r (by simp)
    obtain ⟨l, hl, hql⟩ := rows_typed (rows := rows) fun r hr => h r (by simp [hr])
    refine ⟨x :: l, by simp [hx, hl], fun y hy => ?_⟩
    rcases List.mem_cons.1 hy with rfl | hy
    · exact hq
    · exact hql y hy
theorem ty_slice {α : Type} {f : α → List D} {Q : α → Prop} {sz : Nat} (hu : P.underlying t = some (.slice e)) (hc : P.cellsOf e = sz) (he : ∀ m r, HasTy P m e r → ∃ x, f x = r ∧ Q x) (h : HasTy P n t xs) :
    ∃ l : List α, xs = [.l sz (l.map f)] ∧ l.length < 2 ^ 63 ∧ ∀ x ∈ l, Q x := by
  cases n with
  | zero => exact h.elim
  | succ n =>
    simp only [HasTy, hu] at h
    obtain ⟨rows, rfl, hl, hr⟩ := h
    obtain ⟨l, rfl, hq⟩ := rows_typed (f := f) (Q := Q) fun r hr' => he n r (hr r hr')
    exact ⟨l, by rw [hc], by simpa using hl, hq⟩
theorem ty_struct {fs : Array Field} (hu : P.underlying t = some (.struct fs)) (h : HasTy P n t xs) : ∃ (k : Nat) (parts : List (List D)), xs = parts.flatten ∧ All2 (fun f p => HasTy P k f.type p) fs.toList parts := by
  cases n with
  | zero => exact h.elim
  | succ n =>
    simp only [HasTy, hu] at h
    obtain ⟨parts, h1, h2⟩ := h
    exact ⟨n, parts, h1, h2⟩
end
theorem all2_cons_inv {α β : Type} {R : α → β → Prop} {a : α} {l : List α} {r : List β} (h : All2 R (a :: l) r) : ∃ b r', r = b :: r' ∧ R a b ∧ All2 R l r' := by
  cases h with
  | cons h1 h2 => exact ⟨_, _, rfl, h1, h2⟩
theorem all2_nil_inv {α β : Type} {R : α → β → Prop} {bs : List β} (h : All2 R ([] : List α) bs) : bs = [] := by
  cases h; rfl
theorem true_and_ex {α : Type} {p : α → Prop} (h : ∃ x, p x) : ∃ x, p x ∧ True := by
  obtain ⟨x, h⟩ := h; exact ⟨x, h, trivial⟩
theorem ty_i64e {n : Nat} {t : TypeId} {xs : List D} (hu : Tryz.prog.underlying t = some (.int .i64)) (h : HasTy Tryz.prog n t xs) : ∃ x, ei64 x = xs ∧ True := by
  obtain ⟨x, rfl⟩ := ty_int hu h; exact ⟨x, rfl, trivial⟩
theorem ty_Config22 {n : Nat} {t : TypeId} {xs : List D} (hu : Tryz.prog.underlying t = Tryz.prog.underlying 22) (h : HasTy Tryz.prog n t xs) : ∃ x : Config, Config.enc x = xs := by
  obtain ⟨k, parts, rfl, a0⟩ := ty_struct (hu.trans Tryz.underlying22) h
  obtain ⟨p0, r0, rfl, h0, a1⟩ := all2_cons_inv a0
  obtain ⟨x0, rfl⟩ := ty_int Tryz.underlying2 h0
  obtain ⟨p1, r1, rfl, h1, a2⟩ := all2_cons_inv a1
  obtain ⟨x1, rfl⟩ := ty_int Tryz.underlying2 h1
  obtain ⟨p2, r2, rfl, h2, a3⟩ := all2_cons_inv a2
  obtain ⟨x2, rfl⟩ := ty_int Tryz.underlying2 h2
  obtain ⟨p3, r3, rfl, h3, a4⟩ := all2_cons_inv a3
  obtain ⟨x3, rfl⟩ := ty_int Tryz.underlying2 h3
  obtain ⟨p4, r4, rfl, h4, a5⟩ := all2_cons_inv a4
  obtain ⟨x4, rfl⟩ := ty_int Tryz.underlying2 h4
  obtain ⟨p5, r5, rfl, h5, a6⟩ := all2_cons_inv a5
  obtain ⟨x5, rfl⟩ := ty_int Tryz.underlying2 h5
  obtain ⟨p6, r6, rfl, h6, a7⟩ := all2_cons_inv a6
  obtain ⟨x6, rfl⟩ := ty_int Tryz.underlying2 h6
  obtain ⟨p7, r7, rfl, h7, a8⟩ := all2_cons_inv a7
  obtain ⟨x7, rfl⟩ := ty_int Tryz.underlying2 h7
  obtain ⟨p8, r8, rfl, h8, a9⟩ := all2_cons_inv a8
  obtain ⟨x8, rfl⟩ := ty_int Tryz.underlying2 h8
  obtain ⟨p9, r9, rfl, h9, a10⟩ := all2_cons_inv a9
  obtain ⟨x9, rfl⟩ := ty_int Tryz.underlying3 h9
  obtain ⟨p10, r10, rfl, h10, a11⟩ := all2_cons_inv a10
  obtain ⟨x10, rfl⟩ := ty_int Tryz.underlying2 h10
  obtain ⟨p11, r11, rfl, h11, a12⟩ := all2_cons_inv a11
  obtain ⟨x11, rfl⟩ := ty_int Tryz.underlying2 h11
  obtain ⟨p12, r12, rfl, h12, a13⟩ := all2_cons_inv a12
  obtain ⟨x12, rfl⟩ := ty_int Tryz.underlying3 h12
  obtain ⟨p13, r13, rfl, h13, a14⟩ := all2_cons_inv a13
  obtain ⟨x13, rfl⟩ := ty_int Tryz.underlying2 h13
  cases all2_nil_inv a14
  exact ⟨⟨x0, x1, x2, x3, x4, x5, x6, x7, x8, x9, x10, x11, x12, x13⟩, rfl⟩
theorem ty_Piece108 {n : Nat} {t : TypeId} {xs : List D} (hu : Tryz.prog.underlying t = Tryz.prog.underlying 108) (h : HasTy Tryz.prog n t xs) : ∃ x : Piece, Piece.enc x = xs := by
  obtain ⟨k, parts, rfl, a0⟩ := ty_struct (hu.trans Tryz.underlying108) h
  obtain ⟨p0, r0, rfl, h0, a1⟩ := all2_cons_inv a0
  obtain ⟨x0, rfl⟩ := ty_int Tryz.underlying2 h0
  obtain ⟨p1, r1, rfl, h1, a2⟩ := all2_cons_inv a1
  obtain ⟨x1, rfl⟩ := ty_int Tryz.underlying2 h1
  cases all2_nil_inv a2
  exact ⟨⟨x0, x1⟩, rfl⟩
theorem ty_Group73 {n : Nat} {t : TypeId} {xs : List D} (hu : Tryz.prog.underlying t = Tryz.prog.underlying 73) (h : HasTy Tryz.prog n t xs) : ∃ x : Group, Group.enc x = xs := by
  obtain ⟨k, parts, rfl, a0⟩ := ty_struct (hu.trans Tryz.underlying73) h
  obtain ⟨p0, r0, rfl, h0, a1⟩ := all2_cons_inv a0
  obtain ⟨x0, rfl⟩ := ty_int Tryz.underlying3 h0
  obtain ⟨p1, r1, rfl, h1, a2⟩ := all2_cons_inv a1
  obtain ⟨x1, rfl⟩ := ty_int Tryz.underlying3 h1
  obtain ⟨p2, r2, rfl, h2, a3⟩ := all2_cons_inv a2
  obtain ⟨x2, rfl⟩ := ty_int Tryz.underlying2 h2
  obtain ⟨p3, r3, rfl, h3, a4⟩ := all2_cons_inv a3
  obtain ⟨x3, rfl⟩ := ty_int Tryz.underlying2 h3
  obtain ⟨p4, r4, rfl, h4, a5⟩ := all2_cons_inv a4
  obtain ⟨x4, rfl⟩ := ty_int Tryz.underlying2 h4
  cases all2_nil_inv a5
  exact ⟨⟨x0, x1, x2, x3, x4⟩, rfl⟩
theorem ty_Segment32 {n : Nat} {t : TypeId} {xs : List D} (hu : Tryz.prog.underlying t = Tryz.prog.underlying 32) (h : HasTy Tryz.prog n t xs) : ∃ x : Segment, Segment.enc x = xs ∧ (x.next.length < 2 ^ 63 ∧ x.pieces.length < 2 ^ 63) := by
  obtain ⟨k, parts, rfl, a0⟩ := ty_struct (hu.trans Tryz.underlying32) h
  obtain ⟨p0, r0, rfl, h0, a1⟩ := all2_cons_inv a0
  obtain ⟨x0, rfl⟩ := ty_int Tryz.underlying2 h0
  obtain ⟨p1, r1, rfl, h1, a2⟩ := all2_cons_inv a1
  obtain ⟨x1, rfl, l1, q1⟩ := ty_slice (sz := 2) Tryz.underlying30 (by kernel_rfl) (fun m r hr => true_and_ex (ty_Piece108 (Tryz.underlying109.trans Tryz.underlying108.symm) hr)) h1
  obtain ⟨p2, r2, rfl, h2, a3⟩ := all2_cons_inv a2
  obtain ⟨x2, rfl, l2, q2⟩ := ty_slice (sz := 1) Tryz.underlying31 (by kernel_rfl) (fun m r hr => ty_i64e Tryz.underlying3 hr) h2
  cases all2_nil_inv a3
  exact ⟨⟨x0, x1, x2⟩, rfl, l2, l1⟩
theorem ty_Track26 {n : Nat} {t : TypeId} {xs : List D} (hu : Tryz.prog.underlying t = Tryz.prog.underlying 26) (h : HasTy Tryz.prog n t xs) : ∃ x : Track, Track.enc x = xs ∧ x.Sz := by
  obtain ⟨k, parts, rfl, a0⟩ := ty_struct (hu.trans Tryz.underlying26) h
  obtain ⟨p0, r0, rfl, h0, a1⟩ := all2_cons_inv a0
  obtain ⟨x0, rfl, l0, q0⟩ := ty_slice (sz := 3) Tryz.underlying24 (by kernel_rfl) (fun m r hr => ty_Segment32 (Tryz.underlying33.trans Tryz.underlying32.symm) hr) h0
  obtain ⟨p1, r1, rfl, h1, a2⟩ := all2_cons_inv a1
  obtain ⟨x1, rfl, l1, q1⟩ := ty_slice (sz := 5) Tryz.underlying25 (by kernel_rfl) (fun m r hr => true_and_ex (ty_Group73 (Tryz.underlying126.trans Tryz.underlying73.symm) hr)) h1
  cases all2_nil_inv a2
  exact ⟨⟨x0, x1⟩, rfl, ⟨l0, l1, q0⟩⟩
end Go.Ab
