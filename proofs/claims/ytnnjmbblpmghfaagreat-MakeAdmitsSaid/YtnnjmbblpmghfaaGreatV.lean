/-
  Rules to run the abstract machine by rewriting.
  Conditions: none.
-/
import Derived.Test.YtnnjmbblpmghfaaGreatU
set_option linter.unusedSimpArgs false
set_option linter.unusedVariables false
namespace Go.Ab
def bO {α β : Type} (x : Option α) (k : α → Option β) : Option β :=
  match x with
  | some v => k v
  | none => none
def bX {α β : Type} (x : α) (k : α → Option β) : Option β := k x
theorem bO_some {α β : Type} {v : α} {k : α → Option β} : bO (some v) k = k v := rfl
theorem bO_none {α β : Type} {k : α → Option β} : bO none k = none := rfl
theorem bO_ite {α β : Type} {p : Prop} [Decidable p] {x y : Option α} {k : α → Option β} : bO (if p then x else y) k = if p then bO x k else bO y k := by split <;> rfl
theorem bX_eq {α β : Type} {x : α} {k : α → Option β} : bX x k = k x := rfl
@[congr] theorem bO_congr {α β : Type} {x y : Option α} {k : α → Option β} (h : x = y) : bO x k = bO y k := by rw [h]
@[congr] theorem bX_congr {α β : Type} {x y : α} {k : α → Option β} (h : x = y) : bX x k = bX y k := by rw [h]

section
variable {c : Callee} {e : Env} {H : Heap} {d t : Nat} {v : V} {xs : List IOp} {fns : Nat → Option KFn} {ext : Callee} {s : St}

theorem upd_same : upd e d v d = v := by simp [upd]
theorem upd_other (h : t ≠ d) : upd e d v t = e t := by simp [upd, h]
theorem und_get : und t = .c .undef := rfl
theorem env0_get {args : List V} : env0 args t = args.getD t (.c .undef) := rfl

/-! ### Memory -/
def hp (B : Heap) (L : List Box) : Heap := B ++ L
def pid (B : Heap) (k : Nat) : Nat := B.length + k
theorem hp_nil {B : Heap} : B = hp B [] := by simp [hp]
theorem hp_len {B : Heap} {L : List Box} : (hp B L).length = pid B L.length := by simp [hp, pid]
theorem hp_add {B : Heap} {L : List Box} {b : Box} : hp B L ++ [b] = hp B (L ++ [b]) := by simp [hp]
theorem hp_get {B : Heap} {L : List Box} {k : Nat} : (hp B L)[pid B k]? = L[k]? := by
  unfold hp pid; rw [List.getElem?_append_right (Nat.le_add_right _ _), Nat.add_sub_cancel_left]
theorem hp_set {B : Heap} {L : List Box} {k : Nat} {b : Box} : (hp B L).set (pid B k) b = hp B (L.set k b) := by simp [hp, pid]
theorem hp_take {B : Heap} {L : List Box} {k : Nat} : (hp B L).take (pid B k) = hp B (L.take k) := by
  unfold hp pid; rw [List.take_append, List.take_of_length_le (Nat.le_add_right _ _), Nat.add_sub_cancel_left]
theorem hp_take0 {B : Heap} {L : List Box} : (hp B L).take B.length = B := by simp [hp]
theorem hp_old {B : Heap} {L : List Box} {i : Nat} {b : Box} (h : B[i]? = some b) : (hp B L)[i]? = some b := by
  unfold hp; rw [List.getElem?_append_left (List.getElem?_eq_some_iff.1 h).1]; exact h
theorem hp_hp {B : Heap} {L L' : List Box} : hp (hp B L) L' = hp B (L ++ L') := by simp [hp]
theorem pid_hp {B : Heap} {L : List Box} {k : Nat} : pid (hp B L) k = pid B (L.length + k) := by simp [hp, pid, Nat.add_assoc]
theorem pid_le {B : Heap} {j k : Nat} : (pid B j + 1 ≤ pid B k) = (j + 1 ≤ k) := by simp [pid]; omega
theorem pid_le' {B : Heap} {j k : Nat} : (pid B j + 1 ≤ pid B k + 1) = (j ≤ k) := by simp [pid]
theorem pid_le0 {B : Heap} {k : Nat} : (0 ≤ pid B k) = True := by simp
theorem bd_hp {B : Heap} {L : List Box} {i : Nat} {b : Box} (h : B[i]? = some b) : i + 1 ≤ B.length := (List.getElem?_eq_some_iff.1 h).1

def lt1? (m n : Nat) : Option Unit := if m < n then some () else none

/-! ### Operations -/
theorem ops_nil : runOps c s [] = some s := rfl
theorem ops_q {q : Q} : runOps c ⟨e, H⟩ (.o (.q d q) :: xs) = bO (qv e H q) fun v => runOps c ⟨upd e d v, H⟩ xs := by
  simp only [runOps, iop, step]; cases qv e H q <;> rfl
theorem ops_tk {x : Nat} : runOps c ⟨e, H⟩ (.o (.tk d x) :: xs) = bX (e x) fun v => runOps c ⟨upd (upd e x (cl v)) d v, H⟩ xs := rfl
theorem ops_alloc {z : List C} : runOps c ⟨e, H⟩ (.o (.alloc d z) :: xs) = bX (H.length) fun i => bX (H ++ [⟨true, z⟩]) fun H' => runOps c ⟨upd e d (.c (.ptr i 0)), H'⟩ xs := rfl
def isLen {α : Type} (xs : List α) (n : Nat) : Option Unit := if xs.length = n then some () else none
theorem ops_box {n : Nat} {x : Opd} : runOps c ⟨e, H⟩ (.o (.box d n x) :: xs) = bX (ev e x) fun v => bO (vcells v) fun zs => bO (isLen zs n) fun _ => bX (H.length) fun i => bX (H ++ [⟨true, zs⟩]) fun H' => runOps c ⟨upd e d (.c (.ptr i 0)), H'⟩ xs := by
  simp only [runOps, iop, step, bX, isLen]
  cases vcells (ev e x) with
  | none => rfl
  | some zs => simp only [bO]; by_cases h : zs.length = n <;> simp [h]
def stV (H : Heap) (n : Nat) (a : V) (zs : List C) : Option Heap :=
  match a with
  | .c (.ptr id off) => if zs.length = n then storeCells H id off zs else none
  | _ => none
theorem ops_st {n : Nat} {a x : Opd} : runOps c ⟨e, H⟩ (.o (.st n a x) :: xs) = bX (ev e a) fun a => bX (ev e x) fun v => bO (vcells v) fun zs => bO (stV H n a zs) fun H' => runOps c ⟨e, H'⟩ xs := by
  simp only [runOps, iop, step, bX, bO]
  cases hv : vcells (ev e x) with
  | none =>
    simp only
    split <;> rename_i h
    · split at h
      · rename_i h2; cases h2
      · cases h
    · rfl
  | some zs =>
    simp only
    generalize ev e a = u
    cases u with
    | c u =>
      cases u with
      | ptr id off =>
        simp only [stV]
        by_cases h : zs.length = n
        · simp only [if_pos h]; cases storeCells H id off zs <;> rfl
        · simp [h]
      | _ => rfl
    | agg => rfl
    | tup => rfl
def live? (b : Bool) : Option Unit := if b = true then some () else none
def le0? (m n : Nat) : Option Unit := if m ≤ n then some () else none
theorem stV_ptr {n id off : Nat} {zs : List C} : stV H n (.c (.ptr id off)) zs = bO (isLen zs n) fun _ => bO H[id]? fun bx => bO (live? bx.live) fun _ => bO (le0? (bdA zs) (id + 1)) fun _ => bO (putAt bx.cells off zs) fun cs => bX (H.set id ⟨true, cs⟩) fun H' => some H' := by
  simp only [stV, isLen, storeCells, live?, le0?]
  by_cases h : zs.length = n
  · simp only [if_pos h, bO]
    cases H[id]? with
    | none => rfl
    | some bx =>
      simp only
      by_cases h1 : bx.live = true
      · by_cases h2 : bdA zs ≤ id + 1
        · simp only [if_pos h1, if_pos h2]; cases putAt bx.cells off zs <;> rfl
        · simp [h1, h2]
      · simp [h1]
  · simp [h, bO]
theorem putAt_nil {cs : List C} {off : Nat} : putAt cs off [] = some cs := rfl
theorem putAt_cons {cs : List C} {off : Nat} {x : C} {zs : List C} : putAt cs off (x :: zs) = bO (lt1? off cs.length) fun _ => bX (cs.set off x) fun cs' => putAt cs' (off + 1) zs := by
  simp only [putAt, lt1?, bX]; by_cases h : off < cs.length <;> simp [h, bO]
def bC {β : Type} (x : Option (V × Heap)) (k : V → Heap → Option β) : Option β :=
  match x with
  | some (v, H') => k v H'
  | none => none
theorem bC_some {β : Type} {v : V} {k : V → Heap → Option β} : bC (some (v, H)) k = k v H := rfl
theorem bC_ite {β : Type} {p : Prop} [Decidable p] {x y : Option (V × Heap)} {k : V → Heap → Option β} : bC (if p then x else y) k = if p then bC x k else bC y k := by split <;> rfl
@[congr] theorem bC_congr {β : Type} {x y : Option (V × Heap)} {k : V → Heap → Option β} (h : x = y) : bC x k = bC y k := by rw [h]
theorem ops_call {f : Nat} {args : List Opd} {dd : Option Nat} : runOps c ⟨e, H⟩ (.o (.call dd f args) :: xs) = bC (c f (evs e args) H) fun v H' => runOps c ⟨setD e dd v, H'⟩ xs := by
  simp only [runOps, iop, step]; cases c f (evs e args) H with
  | none => rfl
  | some r => rfl
theorem ops_callo {f x : Nat} {args : List Opd} : runOps c ⟨e, H⟩ (.o (.callo d f x args) :: xs) = bC (c f (e x :: evs e args) H) fun v H' => runOps c ⟨upd (upd e x (cl (e x))) d v, H'⟩ xs := by
  simp only [runOps, iop, step]; cases c f (e x :: evs e args) H with
  | none => rfl
  | some r => rfl
def fnV (c : Callee) (H : Heap) (v : V) (args : List V) : Option (V × Heap) :=
  match v with
  | .c (.fn f fs cs) => c f (fs.map (fun p => .c (.ptr p.1 p.2)) ++ args ++ cs.map (fun p => .c (.ptr p.1 p.2))) H
  | _ => none
theorem ops_callv {x : Opd} {args : List Opd} {dd : Option Nat} : runOps c ⟨e, H⟩ (.o (.callv dd x args) :: xs) = bX (ev e x) fun f => bC (fnV c H f (evs e args)) fun v H' => runOps c ⟨setD e dd v, H'⟩ xs := by
  simp only [runOps, iop, step, bX]
  generalize ev e x = u
  cases u with
  | c u =>
    cases u with
    | fn f fs cs =>
      simp only [fnV]
      cases c f (fs.map (fun p => V.c (.ptr p.1 p.2)) ++ evs e args ++ cs.map (fun p => V.c (.ptr p.1 p.2))) H <;> rfl
    | _ => rfl
  | agg => rfl
  | tup => rfl
def gB {β : Type} (v : V) (want : Bool) (x y z : Option β) : Option β :=
  match v with
  | .c (.d (.b p)) => if p = want then x else y
  | .tup [] => z
  | _ => none
theorem gB_b {β : Type} {p want : Bool} {x y z : Option β} : gB (.c (.d (.b p))) want x y z = if p = want then x else y := rfl
theorem gB_tup {β : Type} {want : Bool} {x y z : Option β} : gB (.tup []) want x y z = z := rfl
theorem gB_ite {β : Type} {q : Prop} [Decidable q] {u v : V} {want : Bool} {x y z : Option β} : gB (if q then u else v) want x y z = if q then gB u want x y z else gB v want x y z := by split <;> rfl
@[congr] theorem gB_congr {β : Type} {v v' : V} {want : Bool} {x y z : Option β} (h : v = v') : gB v want x y z = gB v' want x y z := by rw [h]
theorem upd_self {u : V} (h : e t = u) : upd e t u = e := by
  funext i; simp only [upd]; split
  · rename_i hi; rw [hi, h]
  · rfl
theorem ops_g {want : Bool} {x : Op'} : runOps c ⟨e, H⟩ (.g t want d x :: xs) = gB (e t) want (runOps c ⟨upd e t (.B want), H⟩ (.o x :: xs)) (runOps c ⟨upd (upd e t (.B (!want))) d (.tup []), H⟩ xs) (runOps c ⟨upd (upd e t (.tup [])) d (.tup []), H⟩ xs) := by
  simp only [runOps, iop]
  generalize hv : e t = u
  cases u with
  | c u =>
    cases u with
    | d u =>
      cases u with
      | b p =>
        simp only [gB]
        by_cases hp : p = want
        · subst hp; rw [if_pos rfl, if_pos rfl, upd_self hv]
        · rw [if_neg hp, if_neg hp, upd_self (e := e) (t := t) (u := .B (!want))]
          rw [hv]; cases p <;> cases want <;> first | rfl | exact (hp rfl).elim
      | _ => rfl
    | _ => rfl
  | agg => rfl
  | tup zs =>
    cases zs with
    | nil => simp only [gB]; rw [upd_self hv]
    | cons => rfl
theorem ops_app {x : Nat} {en sz bytes : Nat} {y : Opd} : runOps c ⟨e, H⟩ (.o (.app d en sz bytes x y) :: xs) = bO (step c ⟨e, H⟩ (.app d en sz bytes x y)) fun s => runOps c s xs := by
  simp only [runOps, iop]; cases step c ⟨e, H⟩ (.app d en sz bytes x y) <;> rfl
theorem ops_ldt {a : Opd} : runOps c ⟨e, H⟩ (.o (.ldt d a) :: xs) = bO (step c ⟨e, H⟩ (.ldt d a)) fun s => runOps c s xs := by
  simp only [runOps, iop]; cases step c ⟨e, H⟩ (.ldt d a) <;> rfl
theorem ops_stt {a : Opd} {x : Nat} : runOps c ⟨e, H⟩ (.o (.stt a x) :: xs) = bO (step c ⟨e, H⟩ (.stt a x)) fun s => runOps c s xs := by
  simp only [runOps, iop]; cases step c ⟨e, H⟩ (.stt a x) <;> rfl
theorem ops_bsl {en sz n : Nat} {z : List C} {ps : List (Nat × Nat × Opd)} : runOps c ⟨e, H⟩ (.o (.bsl d en sz n z ps) :: xs) = bO (step c ⟨e, H⟩ (.bsl d en sz n z ps)) fun s => runOps c s xs := by
  simp only [runOps, iop]; cases step c ⟨e, H⟩ (.bsl d en sz n z ps) <;> rfl
theorem ops_bsv {en n : Nat} {ps : List (Nat × Nat × Opd)} : runOps c ⟨e, H⟩ (.o (.bsv d en n ps) :: xs) = bO (step c ⟨e, H⟩ (.bsv d en n ps)) fun s => runOps c s xs := by
  simp only [runOps, iop]; cases step c ⟨e, H⟩ (.bsv d en n ps) <;> rfl

theorem ops_one {x : IOp} : runOps c s [x] = iop c s x := by
  simp only [runOps]; cases iop c s x <;> rfl
noncomputable def sameH (H' H : Heap) : Option Unit := open Classical in if H' = H then some () else none
theorem sameH_rfl : sameH H H = some () := if_pos rfl
theorem runD_nil : runD c s [] = some s := rfl
theorem runD_t {x : IOp} {a : List (List Nat)} {ys : List (IOp × Bool × List (List Nat))} : runD c ⟨e, H⟩ ((x, true, a) :: ys) = bO (runOps c ⟨e, H⟩ [x]) fun s' => runD c s' ys := by
  rw [ops_one]; simp only [runD]; cases iop c ⟨e, H⟩ x <;> simp [bO]
theorem runD_f {x : IOp} {a : List (List Nat)} {ys : List (IOp × Bool × List (List Nat))} : runD c ⟨e, H⟩ ((x, false, a) :: ys) = bO (runOps c ⟨e, H⟩ [x]) fun s' => bO (sameH s'.H H) fun _ => runD c s' ys := by
  rw [ops_one]; simp only [runD, sameH]
  cases iop c ⟨e, H⟩ x with
  | none => rfl
  | some s' => by_cases h : s'.H = H <;> simp [bO, h]

/-! Operations under one guard: run them, and let the ways meet. -/
def gst (s : St) : St := s
def gmk (x : Option St) : Option St := x
theorem runOps_app : ∀ {xs ys : List IOp} {s : St}, runOps c s (xs ++ ys) = bO (runOps c s xs) fun s' => runOps c s' ys
  | [], ys, s => rfl
  | x :: xs, ys, s => by
    simp only [List.cons_append, runOps]
    cases iop c s x with
    | none => rfl
    | some s1 => exact runOps_app
theorem runD_app' : ∀ {xs ys : List (IOp × Bool × List (List Nat))} {s : St}, runD c s (xs ++ ys) = bO (runD c s xs) fun s' => runD c s' ys
  | [], ys, s => rfl
  | (x, ef, a) :: xs, ys, s => by
    simp only [List.cons_append, runD]
    cases iop c s x with
    | none => rfl
    | some s1 =>
      simp only
      split
      · exact runD_app'
      · rfl
theorem ops_grp {ys zs : List IOp} : runOps c ⟨e, H⟩ (grp ys ++ zs) = bO (gmk (runOps c ⟨e, H⟩ ys)) fun s' => runOps c s' zs := runOps_app
theorem runD_grp {ys zs : List (IOp × Bool × List (List Nat))} : runD c ⟨e, H⟩ (grpD ys ++ zs) = bO (gmk (runD c ⟨e, H⟩ ys)) fun s' => runD c s' zs := runD_app'
theorem gmk_some : gmk (some ⟨e, H⟩) = some (gst ⟨e, H⟩) := rfl
theorem gmk_gst : gmk (some (gst s)) = some (gst s) := rfl
theorem gmk_none : gmk none = none := rfl
theorem gmk_ite {p : Prop} [Decidable p] {x y : Option St} : gmk (if p then x else y) = if p then gmk x else gmk y := by split <;> rfl
theorem bO_gst {β : Type} {k : St → Option β} : bO (some (gst ⟨e, H⟩)) k = k ⟨e, H⟩ := rfl
theorem ops_gst {ys : List IOp} : runOps c (gst s) ys = runOps c s ys := rfl
theorem runD_gst {ys : List (IOp × Bool × List (List Nat))} : runD c (gst s) ys = runD c s ys := rfl
theorem m_gst {p : Prop} [Decidable p] {s s' : St} : (if p then some (gst s) else some (gst s')) = some (gst (if p then s else s')) := by split <;> rfl
theorem ite_same_r {α : Type} {p : Prop} [Decidable p] {a b d : α} : (if p then a else if p then b else d) = if p then a else d := by by_cases h : p <;> simp [h]
theorem ite_same_l {α : Type} {p : Prop} [Decidable p] {a b d : α} : (if p then (if p then a else b) else d) = if p then a else d := by by_cases h : p <;> simp [h]
theorem ite_tf {p : Prop} [Decidable p] : (if p then true else false) = decide p := by by_cases h : p <;> simp [h]
theorem ite_ft {p : Prop} [Decidable p] : (if p then false else true) = decide (¬ p) := by by_cases h : p <;> simp [h]

/-! For regions whose operations meet memory in more than one state. -/
noncomputable def sameE (e' e : Env) : Option Unit := open Classical in if e' = e then some () else none
theorem sameE_rfl : sameE e e = some () := if_pos rfl
theorem lookA_hd {G : List Nat} {h : Heap} {r : List (List Nat × Heap)} : lookA ((G, h) :: r) G = some h := if_pos rfl
theorem lookA_cons {G F : List Nat} {h : Heap} {r : List (List Nat × Heap)} : lookA ((G, h) :: r) F = if G = F then some h else lookA r F := rfl
theorem lookA_nil {F : List Nat} : lookA [] F = none := rfl
def optA {β : Type} (x : Option Heap) (a : β) (k : Heap → β) : β := match x with
  | none => a
  | some h => k h
@[congr] theorem optA_congr {β : Type} {x y : Option Heap} {a : β} {k : Heap → β} (h : x = y) : optA x a k = optA y a k := by rw [h]
theorem optA_none {β : Type} {a : β} {k : Heap → β} : optA none a k = a := rfl
theorem optA_some {β : Type} {a : β} {h : Heap} {k : Heap → β} : optA (some h) a k = k h := rfl
def bS {β : Type} (x : Option St) (k : Env → Heap → Option β) : Option β := match x with
  | none => none
  | some s => k s.env s.H
theorem bS_some {β : Type} {k : Env → Heap → Option β} : bS (some ⟨e, H⟩) k = k e H := rfl
theorem bS_none {β : Type} {k : Env → Heap → Option β} : bS none k = none := rfl
theorem bS_ite {β : Type} {p : Prop} [Decidable p] {x y : Option St} {k : Env → Heap → Option β} : bS (if p then x else y) k = if p then bS x k else bS y k := by split <;> rfl
@[congr] theorem bS_congr {β : Type} {x y : Option St} {k : Env → Heap → Option β} (h : x = y) : bS x k = bS y k := by rw [h]
theorem admOne_t {l F : List Nat} {i : Nat} {h h1 : Heap} {A : List (List Nat × Heap)} : admOne l i true F h ⟨e, h1⟩ A = bX (insF l F i) fun G => optA (lookA A G) (some (A ++ [(G, h1)])) fun h2 => bO (sameH h1 h2) fun _ => some A := by
  simp only [admOne, if_true, optA, bX]
  cases lookA A (insF l F i) with
  | none => rfl
  | some h2 => by_cases e : h1 = h2 <;> simp [sameH, bO, e]
theorem admOne_f {l F : List Nat} {i : Nat} {h h1 : Heap} {A : List (List Nat × Heap)} : admOne l i false F h ⟨e, h1⟩ A = bO (sameH h1 h) fun _ => some A := by
  simp only [admOne, Bool.false_eq_true, if_false, sameH]
  by_cases e : h1 = h <;> simp [bO, e]
theorem ph1_nil {l : List Nat} {i : Nat} {e : Env} {A : List (List Nat × Heap)} {T : List Td} : ph1 c l i e A T [] = some (e, A, T) := rfl
theorem ph1_cons {l F : List Nat} {Fs : List (List Nat)} {i : Nat} {e : Env} {ef : Bool} {x : IOp} {A : List (List Nat × Heap)} {T : List Td} {ys : List (IOp × Bool × List (List Nat))} : ph1 c l i e A T ((x, ef, F :: Fs) :: ys) =
    bO (lookA A F) fun h => bS (runOps c ⟨e, h⟩ [x]) fun e1 h1 => bO (admOne l i ef F h ⟨e1, h1⟩ A) fun A1 => bX (i + 1) fun i1 => ph1 c l i1 e1 A1 (T ++ Fs.map fun G => (i, x, ef, G, e, e1)) ys := by
  simp only [ph1]
  cases lookA A F with
  | none => rfl
  | some h =>
    simp only [bO, ops_one]
    cases iop c ⟨e, h⟩ x with
    | none => rfl
    | some s1 => simp only [bS, bX]; cases admOne l i ef F h s1 A <;> rfl
theorem ph1_one {l F : List Nat} {i : Nat} {e : Env} {ef : Bool} {x : IOp} {A : List (List Nat × Heap)} {T : List Td} {ys : List (IOp × Bool × List (List Nat))} : ph1 c l i e A T ((x, ef, [F]) :: ys) =
    bO (lookA A F) fun h => bS (runOps c ⟨e, h⟩ [x]) fun e1 h1 => bO (admOne l i ef F h ⟨e1, h1⟩ A) fun A1 => bX (i + 1) fun i1 => ph1 c l i1 e1 A1 T ys := by
  rw [ph1_cons]; simp only [List.map_nil, List.append_nil]
theorem ph1_two {l F F2 : List Nat} {Fs : List (List Nat)} {i : Nat} {e : Env} {ef : Bool} {x : IOp} {A : List (List Nat × Heap)} {T : List Td} {ys : List (IOp × Bool × List (List Nat))} : ph1 c l i e A T ((x, ef, F :: F2 :: Fs) :: ys) =
    bO (lookA A F) fun h => bS (runOps c ⟨e, h⟩ [x]) fun e1 h1 => bO (admOne l i ef F h ⟨e1, h1⟩ A) fun A1 => bX (i + 1) fun i1 => ph1 c l i1 e1 A1 (T ++ (F2 :: Fs).map fun G => (i, x, ef, G, e, e1)) ys := ph1_cons
theorem tdGo_nil {l : List Nat} {A : List (List Nat × Heap)} {R : List Td} : tdGo c l [] A R = some (A, R) := rfl
theorem tdGo_cons {l F : List Nat} {i : Nat} {ef : Bool} {x : IOp} {e e1 : Env} {A : List (List Nat × Heap)} {T R : List Td} : tdGo c l ((i, x, ef, F, e, e1) :: T) A R =
    optA (lookA A F) (tdGo c l T A (R ++ [(i, x, ef, F, e, e1)])) fun h => bS (runOps c ⟨e, h⟩ [x]) fun e2 h1 => bO (sameE e2 e1) fun _ => bO (admOne l i ef F h ⟨e2, h1⟩ A) fun A1 => tdGo c l T A1 R := by
  simp only [tdGo]
  cases lookA A F with
  | none => rfl
  | some h =>
    simp only [bO, ops_one, optA]
    cases iop c ⟨e, h⟩ x with
    | none => rfl
    | some s1 =>
      simp only [bS]
      by_cases he : s1.env = e1
      · simp only [if_pos he, sameE]
        cases admOne l i ef F h s1 A <;> rfl
      · simp only [if_neg he, sameE]
theorem rounds_nil {l : List Nat} {n : Nat} {A : List (List Nat × Heap)} : rounds c l n [] A = some A := by cases n <;> rfl
theorem rounds_cons {l : List Nat} {n : Nat} {t : Td} {T : List Td} {A : List (List Nat × Heap)} : rounds c l (n + 1) (t :: T) A = bO (tdGo c l (t :: T) A []) fun r => rounds c l n r.2 r.1 := by
  simp only [rounds]
  cases tdGo c l (t :: T) A [] <;> rfl
theorem runA_eq {l : List Nat} {items : List (IOp × Bool × List (List Nat))} : runA c l ⟨e, H⟩ items = bO (ph1 c l 0 e [([], H)] [] items) fun r => bO (rounds c l (l.length + 1) r.2.2 r.2.1) fun A => bO (lookA A l) fun h => some ⟨r.1, h⟩ := by
  unfold runA
  simp only
  cases ph1 c l 0 e [([], H)] [] items with
  | none => rfl
  | some r =>
    obtain ⟨e', A, T⟩ := r
    simp only [bO]
    cases rounds c l (l.length + 1) T A with
    | none => rfl
    | some A' => simp only; cases lookA A' l <;> rfl
theorem ev_t : ev e (.t t) = cl (e t) := rfl
theorem ev_k {x : C} : ev e (.k x) = .c x := rfl
theorem cl_d {x : D} : cl (.c (.d x)) = .c (.d x) := rfl
theorem cl_ptr {i o : Nat} : cl (.c (.ptr i o)) = .c (.ptr i o) := rfl
theorem cl_cptr {i : List D} {o : Nat} : cl (.c (.cptr i o)) = .c (.cptr i o) := rfl
theorem cl_nil {n : Nat} : cl (.c (.nil n)) = .c (.nil n) := rfl
theorem cl_nilp : cl (.c .nilp) = .c .nilp := rfl
theorem cl_view {a b l n : Nat} : cl (.c (.view a b l n)) = .c (.view a b l n) := rfl
theorem cl_own {en sz : Nat} {rows : List (List D)} : cl (.c (.own en sz rows)) = .c (.d (.l sz rows)) := rfl
theorem cl_fn {f : Nat} {fs cs : List (Nat × Nat)} : cl (.c (.fn f fs cs)) = .c (.fn f fs cs) := rfl
theorem cl_undef : cl (.c .undef) = .c .undef := rfl
theorem cl_agg {zs : List C} : cl (.agg zs) = .agg zs := rfl
theorem cl_tup {zs : List V} : cl (.tup zs) = .tup zs := rfl
theorem cl_ite {p : Prop} [Decidable p] {x y : V} : cl (if p then x else y) = if p then cl x else cl y := by split <;> rfl
theorem evs_nil : evs e [] = [] := rfl
theorem evs_cons {x : Opd} {ys : List Opd} : evs e (x :: ys) = nm (ev e x) :: evs e ys := rfl
theorem nm_d {x : D} : nm (.c (.d x)) = .c (.d x) := rfl
theorem nm_ptr {i o : Nat} : nm (.c (.ptr i o)) = .c (.ptr i o) := rfl
theorem nm_cptr {i : List D} {o : Nat} : nm (.c (.cptr i o)) = .c (.cptr i o) := rfl
theorem nm_nil {n : Nat} : nm (.c (.nil n)) = .c (.d (.l n [])) := rfl
theorem nm_agg {zs : List C} : nm (.agg zs) = .agg (zs.map nmC) := rfl
theorem nm_fn {f : Nat} {fs cs : List (Nat × Nat)} : nm (.c (.fn f fs cs)) = .c (.fn f fs cs) := rfl
theorem nm_view {a b l n : Nat} : nm (.c (.view a b l n)) = .c (.view a b l n) := rfl

/-! ### Quiet operations -/
theorem qv_mv {x : Opd} : qv e H (.mv x) = some (ev e x) := rfl
theorem qv_pick {x y z : Opd} : qv e H (.pick x y z) = bX (ev e x) fun v => gB v true (some (ev e y)) (some (ev e z)) none := by
  simp only [qv, bX]
  generalize ev e x = u
  cases u with
  | c u =>
    cases u with
    | d u =>
      cases u with
      | b p => cases p <;> rfl
      | _ => rfl
    | _ => rfl
  | agg => rfl
  | tup zs => cases zs <;> rfl
def ldV (H : Heap) (a : V) : Option V :=
  match a with
  | .c (.ptr id off) => bO H[id]? fun bx => bO (bx.cells[off]?) fun x => some (.c (clC x))
  | .c (.cptr row off) => bO row[off]? fun x => some (.c (.d x))
  | _ => none
theorem ldV_ptr {id off : Nat} : ldV H (.c (.ptr id off)) = bO H[id]? fun bx => bO (bx.cells[off]?) fun x => some (.c (clC x)) := rfl
theorem ldV_cptr {row : List D} {off : Nat} : ldV H (.c (.cptr row off)) = bO row[off]? fun x => some (.c (.d x)) := rfl
theorem qv_ld {a : Opd} : qv e H (.ld a) = bX (ev e a) fun a => ldV H a := by
  simp only [qv, bX]
  generalize ev e a = u
  cases u with
  | c u =>
    cases u with
    | ptr id off =>
      simp only [ldV, loadC]
      cases H[id]? with
      | none => rfl
      | some bx => simp only [bO]; cases bx.cells[off]? <;> rfl
    | cptr row off => simp only [ldV]; cases row[off]? <;> rfl
    | _ => rfl
  | agg => rfl
  | tup => rfl
def le? (m n : Nat) : Option Unit := if m ≤ n then some () else none
def ldaV (H : Heap) (n : Nat) (a : V) : Option V :=
  match a with
  | .c (.ptr id off) => bO H[id]? fun bx => bO (le? (off + n) bx.cells.length) fun _ => bX (((bx.cells.drop off).take n).map clC) fun zs => some (.agg zs)
  | .c (.cptr row off) => bO (le? (off + n) row.length) fun _ => bX (((row.drop off).take n).map .d) fun zs => some (.agg zs)
  | _ => none
theorem ldaV_ptr {n id off : Nat} : ldaV H n (.c (.ptr id off)) = bO H[id]? fun bx => bO (le? (off + n) bx.cells.length) fun _ => bX (((bx.cells.drop off).take n).map clC) fun zs => some (.agg zs) := rfl
theorem ldaV_cptr {n : Nat} {row : List D} {off : Nat} : ldaV H n (.c (.cptr row off)) = bO (le? (off + n) row.length) fun _ => bX (((row.drop off).take n).map .d) fun zs => some (.agg zs) := rfl
theorem qv_lda {n : Nat} {a : Opd} : qv e H (.lda n a) = bX (ev e a) fun a => ldaV H n a := by
  simp only [qv, bX]
  generalize ev e a = u
  cases u with
  | c u =>
    cases u with
    | ptr id off =>
      simp only [ldaV, loadA]
      cases H[id]? with
      | none => rfl
      | some bx => simp only [bO, le?, bX]; by_cases h : off + n ≤ bx.cells.length <;> simp [h]
    | cptr row off => simp only [ldaV, le?]; by_cases h : off + n ≤ row.length <;> simp [h, bO, bX]
    | _ => rfl
  | agg => rfl
  | tup => rfl
def nckV : V → Option V
  | .c (.ptr id off) => some (.c (.ptr id off))
  | .c (.cptr row off) => some (.c (.cptr row off))
  | .c (.fn f fs cs) => some (.c (.fn f fs cs))
  | _ => none
theorem qv_nck {x : Opd} : qv e H (.nck x) = bX (ev e x) nckV := by
  simp only [qv, bX]
  generalize ev e x = u
  cases u with
  | c u => cases u <;> rfl
  | agg => rfl
  | tup => rfl
def binV (op : BinOp) (x y : V) : Option V :=
  match x, y with
  | .c (.d (.i k a)), .c (.d (.i k' b)) => bO (binI op k k' a b) fun r => some (.c (.d r))
  | _, _ => none
theorem binV_i {op : BinOp} {k k' : IntKind} {a b : Int} : binV op (.c (.d (.i k a))) (.c (.d (.i k' b))) = bO (binI op k k' a b) fun r => some (.c (.d r)) := rfl
theorem qv_bin {op : BinOp} {x y : Opd} : qv e H (.bin op x y) = bX (ev e x) fun a => bX (ev e y) fun b => binV op a b := by
  simp only [qv, bX, binV]
  split
  · rename_i k a k' b h1 h2
    simp only [h1, h2, bO]
    cases binI op k k' a b <;> rfl
  · rename_i hne
    split
    · rename_i h1 h2; exact (hne _ _ _ _ h1 h2).elim
    · rfl
def eqbV (neg : Bool) (x y : V) : Option V :=
  match x, y with
  | .c (.d (.b p)), .c (.d (.b q)) => some (.B (if neg then !(p == q) else p == q))
  | _, _ => none
theorem qv_eqb {neg : Bool} {x y : Opd} : qv e H (.eqb neg x y) = bX (ev e x) fun a => bX (ev e y) fun b => eqbV neg a b := by
  simp only [qv, bX, eqbV]
  rfl
def eqaV (neg : Bool) (n : Nat) (x y : V) : Option V :=
  match x, y with
  | .agg p, .agg q => bO (isLen p n) fun _ => bO (eqCs p q) fun r => some (.B (if neg then !r else r))
  | _, _ => none
theorem qv_eqa {neg : Bool} {n : Nat} {x y : Opd} : qv e H (.eqa neg n x y) = bX (ev e x) fun a => bX (ev e y) fun b => eqaV neg n a b := by
  simp only [qv, bX, eqaV]
  split
  · rename_i p q h1 h2
    simp only [h1, h2, isLen]
    by_cases h : p.length = n
    · simp only [if_pos h, bO]; cases eqCs p q <;> rfl
    · simp [h, bO]
  · rename_i hne
    split
    · rename_i h1 h2; exact (hne _ _ h1 h2).elim
    · rfl
def eqnV : V → Option V
  | .c (.view _ _ _ _) => some (.B false)
  | .c (.nil _) => some (.B true)
  | .c (.d (.l _ (_ :: _))) => some (.B false)
  | _ => none
theorem qv_eqn {x : Opd} : qv e H (.eqn x) = bX (ev e x) eqnV := by
  simp only [qv, bX]
  generalize ev e x = u
  cases u with
  | c u =>
    cases u with
    | d u => cases u with
      | l sz rows => cases rows <;> rfl
      | _ => rfl
    | _ => rfl
  | agg => rfl
  | tup => rfl
def eqpV : V → Option V
  | .c (.ptr _ _) => some (.B false)
  | .c .nilp => some (.B true)
  | _ => none
theorem qv_eqp {x : Opd} : qv e H (.eqp x) = bX (ev e x) eqpV := by
  simp only [qv, bX]
  generalize ev e x = u
  cases u with
  | c u => cases u <;> rfl
  | agg => rfl
  | tup => rfl
def negV : V → Option V
  | .c (.d (.i k a)) => some (.c (.d (.i k (k.wrap (0 - a)))))
  | _ => none
theorem qv_neg {x : Opd} : qv e H (.neg x) = bX (ev e x) negV := by
  simp only [qv, bX]
  generalize ev e x = u
  cases u with
  | c u => cases u with
    | d u => cases u <;> rfl
    | _ => rfl
  | agg => rfl
  | tup => rfl
def notV : V → Option V
  | .c (.d (.b p)) => some (.B (!p))
  | _ => none
theorem qv_not {x : Opd} : qv e H (.not x) = bX (ev e x) notV := by
  simp only [qv, bX]
  generalize ev e x = u
  cases u with
  | c u => cases u with
    | d u => cases u <;> rfl
    | _ => rfl
  | agg => rfl
  | tup => rfl
def cviV (k : IntKind) : V → Option V
  | .c (.d (.i _ a)) => some (.c (.d (.i k (k.wrap a))))
  | _ => none
theorem qv_cvi {k : IntKind} {x : Opd} : qv e H (.cvi k x) = bX (ev e x) (cviV k) := by
  simp only [qv, bX]
  generalize ev e x = u
  cases u with
  | c u => cases u with
    | d u => cases u <;> rfl
    | _ => rfl
  | agg => rfl
  | tup => rfl
def fadV (off : Nat) : V → Option V
  | .c (.ptr id o) => some (.c (.ptr id (o + off)))
  | .c (.cptr row o) => some (.c (.cptr row (o + off)))
  | _ => none
theorem qv_fad {off : Nat} {x : Opd} : qv e H (.fad off x) = bX (ev e x) (fadV off) := by
  simp only [qv, bX]
  generalize ev e x = u
  cases u with
  | c u => cases u <;> rfl
  | agg => rfl
  | tup => rfl
def nn? (n : Int) : Option Nat := if 0 ≤ n then some n.toNat else none
def lt? (m n : Nat) : Option Unit := if m < n then some () else none
def eq? (m n : Nat) : Option Unit := if m = n then some () else none
def iasV (sz : Nat) (x i : V) : Option V :=
  match x, i with
  | .c (.d (.l sz' rows)), .c (.d (.i _ n)) => bO (eq? sz' sz) fun _ => bO (nn? n) fun j => bO rows[j]? fun row => some (.c (.cptr row 0))
  | .c (.view id off len sz'), .c (.d (.i _ n)) => bO (eq? sz' sz) fun _ => bO (nn? n) fun j => bO (lt? j len) fun _ => some (.c (.ptr id (off + j * sz)))
  | _, _ => none
theorem qv_ias {sz : Nat} {x i : Opd} : qv e H (.ias sz x i) = bX (ev e x) fun a => bX (ev e i) fun b => iasV sz a b := by
  simp only [qv, bX]
  generalize ev e x = u; generalize ev e i = u'
  cases u with
  | c u =>
    cases u with
    | d u =>
      cases u with
      | l sz' rows =>
        cases u' with
        | c u' => cases u' with
          | d u' => cases u' with
            | i k n =>
              simp only [iasV, eq?, nn?]
              by_cases h1 : sz' = sz
              · by_cases h2 : 0 ≤ n
                · simp only [if_pos h1, if_pos h2, bO]; cases rows[n.toNat]? <;> rfl
                · simp [h1, h2, bO]
              · simp [h1, bO]
            | _ => rfl
          | _ => rfl
        | _ => rfl
      | _ => rfl
    | view id off len sz' =>
        cases u' with
        | c u' => cases u' with
          | d u' => cases u' with
            | i k n =>
              simp only [iasV, eq?, nn?, lt?]
              by_cases h1 : sz' = sz
              · by_cases h2 : 0 ≤ n
                · simp only [if_pos h1, if_pos h2, bO]; by_cases h3 : n.toNat < len <;> simp [h3]
                · simp [h1, h2, bO]
              · simp [h1, bO]
            | _ => rfl
          | _ => rfl
        | _ => rfl
    | _ => rfl
  | _ => rfl
def iaaV (n sz : Nat) (x i : V) : Option V :=
  match x, i with
  | .c (.ptr id off), .c (.d (.i _ j)) => bO (nn? j) fun j => bO (lt? j n) fun _ => some (.c (.ptr id (off + j * sz)))
  | .c (.cptr row off), .c (.d (.i _ j)) => bO (nn? j) fun j => bO (lt? j n) fun _ => some (.c (.cptr row (off + j * sz)))
  | _, _ => none
theorem qv_iaa {n sz : Nat} {x i : Opd} : qv e H (.iaa n sz x i) = bX (ev e x) fun a => bX (ev e i) fun b => iaaV n sz a b := by
  simp only [qv, bX]
  generalize ev e x = u; generalize ev e i = u'
  cases u with
  | c u =>
    cases u with
    | ptr id off =>
        cases u' with
        | c u' => cases u' with
          | d u' => cases u' with
            | i k j =>
              simp only [iaaV, nn?, lt?]
              by_cases h2 : 0 ≤ j
              · simp only [if_pos h2, bO]; by_cases h3 : j.toNat < n <;> simp [h3]
              · simp [h2, bO]
            | _ => rfl
          | _ => rfl
        | _ => rfl
    | cptr id off =>
        cases u' with
        | c u' => cases u' with
          | d u' => cases u' with
            | i k j =>
              simp only [iaaV, nn?, lt?]
              by_cases h2 : 0 ≤ j
              · simp only [if_pos h2, bO]; by_cases h3 : j.toNat < n <;> simp [h3]
              · simp [h2, bO]
            | _ => rfl
          | _ => rfl
        | _ => rfl
    | _ => rfl
  | _ => rfl
def fldV (off : Nat) : V → Option V
  | .agg xs => bO xs[off]? fun y => some (.c y)
  | _ => none
theorem qv_fld {off : Nat} {x : Opd} : qv e H (.fld off x) = bX (ev e x) (fldV off) := by
  simp only [qv, bX]
  generalize ev e x = u
  cases u with
  | c u => rfl
  | agg zs => simp only [fldV]; cases zs[off]? <;> rfl
  | tup => rfl
def extV (j : Nat) : V → Option V
  | .tup xs => xs[j]?
  | _ => none
theorem qv_ext {j : Nat} {x : Opd} : qv e H (.ext x j) = bX (ev e x) (extV j) := by
  simp only [qv, bX]
  generalize ev e x = u
  cases u <;> rfl
def lenV : V → Option V
  | .c (.d (.l _ rows)) => some (.I rows.length)
  | .c (.nil _) => some (.I 0)
  | .c (.view _ _ len _) => some (.I len)
  | _ => none
theorem qv_len {x : Opd} : qv e H (.len x) = bX (ev e x) lenV := by
  simp only [qv, bX]
  generalize ev e x = u
  cases u with
  | c u => cases u with
    | d u => cases u <;> rfl
    | _ => rfl
  | agg => rfl
  | tup => rfl
def mmV (mx : Bool) (x y : V) : Option V :=
  match x, y with
  | .c (.d (.i k a)), .c (.d (.i _ b)) => some (.c (.d (.i k (if mx then (if b > a then b else a) else (if b < a then b else a)))))
  | _, _ => none
theorem qv_mm {mx : Bool} {x y : Opd} : qv e H (.mm mx x y) = bX (ev e x) fun a => bX (ev e y) fun b => mmV mx a b := by
  simp only [qv, bX, mmV]
  rfl
theorem qv_bld {z : List C} {ps : List (Nat × Nat × Opd)} : qv e H (.bld z ps) = bO (putAll e z ps) fun cs => some (.agg cs) := by
  simp only [qv]; cases putAll e z ps <;> rfl
def ptrV (v : V) (r : Option (List (Nat × Nat))) : Option (List (Nat × Nat)) :=
  match v with
  | .c (.ptr id off) => bO r fun r => some ((id, off) :: r)
  | _ => none
theorem ptrs_nil : ptrs e [] = some [] := rfl
theorem ptrs_cons {x : Opd} {ys : List Opd} : ptrs e (x :: ys) = bX (ev e x) fun v => ptrV v (ptrs e ys) := by
  simp only [ptrs, bX]
  generalize ev e x = u
  cases u with
  | c u =>
    cases u with
    | ptr id off => simp only [ptrV]; cases ptrs e ys <;> rfl
    | _ => rfl
  | agg => rfl
  | tup => rfl
theorem qv_mkf {f : Nat} {fs cs : List Opd} : qv e H (.mkf f fs cs) = bO (ptrs e fs) fun p => bO (ptrs e cs) fun q => some (.c (.fn f p q)) := by
  simp only [qv]; cases ptrs e fs <;> cases ptrs e cs <;> rfl
theorem step_bsv {en n : Nat} {ps : List (Nat × Nat × Opd)} : step c ⟨e, H⟩ (.bsv d en n ps) = bO (putAll e (List.replicate n .undef) ps) fun cs => bX H.length fun i => bX (H ++ [⟨true, cs⟩]) fun H' => some ⟨upd e d (.c (.view i 0 n 1)), H'⟩ := by
  simp only [step]; cases putAll e (List.replicate n .undef) ps <;> rfl
theorem putAll_nil {z : List C} : putAll e z [] = some z := rfl
theorem putAll_cons {z : List C} {off n : Nat} {x : Opd} {ps : List (Nat × Nat × Opd)} : putAll e z ((off, n, x) :: ps) = bX (ev e x) fun v => bO (vcells v) fun zs => bO (isLen zs n) fun _ => bO (putAt z off zs) fun z' => putAll e z' ps := by
  simp only [putAll, bX]
  cases vcells (ev e x) with
  | none => rfl
  | some zs =>
    simp only [bO, isLen]
    by_cases h : zs.length = n
    · simp only [if_pos h]; cases putAt z off zs <;> rfl
    · simp [h]
theorem qv_sls {sz : Nat} {x : Opd} {lo hi : Option Opd} : qv e H (.sls sz x lo hi) = bX (ev e x) fun a => (match a with
    | .c (.d (.l sz' rows)) => bO (eq? sz' sz) fun _ => bO (natOf e lo 0) fun l => bO (natOf e hi rows.length) fun h => bO (le? l h) fun _ => bO (le? h rows.length) fun _ => some (.c (.d (.l sz ((rows.drop l).take (h - l)))))
    | _ => qv e H (.sls sz x lo hi)) := by
  simp only [bX]
  generalize hu : ev e x = u
  cases u with
  | c u => cases u with
    | d u => cases u with
      | l sz' rows =>
        simp only [qv, hu, eq?, le?, bO]
        by_cases h : sz' = sz
        · simp only [if_pos h]
          cases natOf e lo 0 with
          | none => rfl
          | some l =>
            simp only
            cases natOf e hi rows.length with
            | none => rfl
            | some h => simp only; by_cases h1 : l ≤ h <;> by_cases h2 : h ≤ rows.length <;> simp [h1, h2]
        · simp [h]
      | _ => rfl
    | _ => rfl
  | agg => rfl
  | tup => rfl

/-! ### Code -/
theorem nrm_some : nrm (some s) = some (.normal, s) := rfl
theorem nrm_ite {p : Prop} [Decidable p] {x y : Option St} : nrm (if p then x else y) = if p then nrm x else nrm y := by split <;> rfl
theorem seqN_normal {k : St → Option (Ex × St)} : seqN (some (.normal, ⟨e, H⟩)) k = k ⟨e, H⟩ := rfl
theorem seqN_exit {k : St → Option (Ex × St)} {i : Nat} : seqN (some (.exit i, s)) k = some (.exit i, s) := rfl
theorem seqN_ret {k : St → Option (Ex × St)} : seqN (some (.ret, s)) k = some (.ret, s) := rfl
theorem seqN_ite {p : Prop} [Decidable p] {x y : Option (Ex × St)} {k : St → Option (Ex × St)} : seqN (if p then x else y) k = if p then seqN x k else seqN y k := by split <;> rfl
@[congr] theorem seqN_congr {x y : Option (Ex × St)} {k : St → Option (Ex × St)} (h : x = y) : seqN x k = seqN y k := by rw [h]
def condB (v : V) (x y : Option (Ex × St)) : Option (Ex × St) :=
  match v with
  | .c (.d (.b t)) => if t = true then x else y
  | _ => none
theorem condB_b {p : Bool} {x y : Option (Ex × St)} : condB (.c (.d (.b p))) x y = if p = true then x else y := rfl
@[congr] theorem condB_congr {v v' : V} {x y : Option (Ex × St)} (h : v = v') : condB v x y = condB v' x y := by rw [h]
theorem rn_cond {x : Opd} {a b : K} : runL fns ext (.cond x a b) ⟨e, H⟩ = condB (ev e x) (runL fns ext a ⟨e, H⟩) (runL fns ext b ⟨e, H⟩) := by
  by_cases h : ∃ t, ev e x = .c (.d (.b t))
  · obtain ⟨t, ht⟩ := h
    rw [runL_cond (s := ⟨e, H⟩) ht, ht]; rfl
  · have h1 : condB (ev e x) (runL fns ext a ⟨e, H⟩) (runL fns ext b ⟨e, H⟩) = none := by
      unfold condB; split
      · rename_i t ht; exact (h ⟨t, ht⟩).elim
      · rfl
    rw [h1]
    apply Option.eq_none_iff_forall_ne_some.2
    intro r hr
    obtain ⟨n, hn⟩ := runL_iff.1 hr
    simp only [run] at hn
    split at hn
    · rename_i t ht; exact h ⟨t, ht⟩
    · cases hn
theorem blkN_normal {i : Nat} : blkN i (some (.normal, s)) = some (.normal, s) := rfl
theorem blkN_ret {i : Nat} : blkN i (some (.ret, s)) = some (.ret, s) := rfl
theorem blkN_exit {i j : Nat} : blkN i (some (.exit j, s)) = if j = i then some (.normal, s) else some (.exit j, s) := rfl
theorem blkN_ite {p : Prop} [Decidable p] {i : Nat} {x y : Option (Ex × St)} : blkN i (if p then x else y) = if p then blkN i x else blkN i y := by split <;> rfl
def kst (s : St) : St := s
theorem keepN_some {cut : Bool} {ts rts : List Nat} {zs : List (Nat × List Nat)} {n : Nat} {x : Ex} : keepN cut ts rts zs n (some (x, ⟨e, H⟩)) = bO (keepS cut (kset ts rts zs x) n ⟨e, H⟩) fun s2 => some (x, kst s2) := by
  simp only [keepN]; cases keepS cut (kset ts rts zs x) n ⟨e, H⟩ <;> rfl
theorem keepN_kst {cut : Bool} {ts rts : List Nat} {zs : List (Nat × List Nat)} {n : Nat} {x : Ex} : keepN cut ts rts zs n (some (x, kst s)) = keepN cut ts rts zs n (some (x, s)) := rfl
theorem seqN_kst {k : St → Option (Ex × St)} : seqN (some (.normal, kst s)) k = k s := rfl
theorem keepN_ite {cut : Bool} {ts rts : List Nat} {zs : List (Nat × List Nat)} {n : Nat} {p : Prop} [Decidable p] {x y : Option (Ex × St)} : keepN cut ts rts zs n (if p then x else y) = if p then keepN cut ts rts zs n x else keepN cut ts rts zs n y := by split <;> rfl
theorem keepS_false {ts : List Nat} {n : Nat} : keepS false ts n ⟨e, H⟩ = some ⟨keepE e ts, H⟩ := rfl
theorem keepS_true {ts : List Nat} {n : Nat} : keepS true ts n ⟨e, H⟩ = if noTup e ts = true then (if bdsE e ts ≤ n then some ⟨keepE e ts, H.take n⟩ else none) else none := rfl
theorem keepE_nil : keepE e [] = und := rfl
theorem keepE_cons {ts : List Nat} : keepE e (t :: ts) = upd (keepE e ts) t (e t) := rfl
theorem finN_normal {kf : KFn} {n0 : Nat} : finN kf n0 (some (.normal, s)) = finish kf n0 s := rfl
theorem finN_ret {kf : KFn} {n0 : Nat} : finN kf n0 (some (.ret, s)) = finish kf n0 s := rfl
theorem finN_ite {kf : KFn} {n0 : Nat} {p : Prop} [Decidable p] {x y : Option (Ex × St)} : finN kf n0 (if p then x else y) = if p then finN kf n0 x else finN kf n0 y := by split <;> rfl

theorem kset_hit {ts rts l : List Nat} {zs : List (Nat × List Nat)} {i : Nat} : kset ts rts ((i, l) :: zs) (.exit i) = l := by simp [kset, List.find?]
theorem kset_miss {ts rts l : List Nat} {zs : List (Nat × List Nat)} {i j : Nat} (h : i ≠ j) : kset ts rts ((i, l) :: zs) (.exit j) = kset ts rts zs (.exit j) := by
  have : Nat.beq i j = false := by
    cases hb : Nat.beq i j with
    | false => rfl
    | true => exact absurd (Nat.eq_of_beq_eq_true hb) h
  simp [kset, List.find?, this]
theorem kset_end {ts rts : List Nat} {j : Nat} : kset ts rts [] (.exit j) = ts := rfl
theorem kset_normal {ts rts : List Nat} {zs : List (Nat × List Nat)} : kset ts rts zs .normal = ts := rfl
theorem kset_ret {ts rts : List Nat} {zs : List (Nat × List Nat)} : kset ts rts zs .ret = rts := rfl
theorem nn_nat (n : Nat) : nn? (n : Int) = some n := by simp [nn?]
theorem nn_pos {n : Int} (h : 0 ≤ n) : nn? n = some n.toNat := by simp [nn?, h]
theorem nn_0 : nn? 0 = some 0 := rfl
theorem nn_1 : nn? 1 = some 1 := rfl
theorem nn_2 : nn? 2 = some 2 := rfl
theorem nn_3 : nn? 3 = some 3 := rfl
theorem nn_4 : nn? 4 = some 4 := rfl
theorem nn_5 : nn? 5 = some 5 := rfl
theorem nn_6 : nn? 6 = some 6 := rfl
theorem nn_7 : nn? 7 = some 7 := rfl
theorem nn_8 : nn? 8 = some 8 := rfl
theorem nn_9 : nn? 9 = some 9 := rfl
theorem nn_10 : nn? 10 = some 10 := rfl
theorem nn_11 : nn? 11 = some 11 := rfl
theorem nn_12 : nn? 12 = some 12 := rfl

/-! ### Two ways that meet -/
theorem m_some {p : Prop} [Decidable p] {s s' : St} : (if p then some (Ex.normal, kst s) else some (Ex.normal, kst s')) = some (Ex.normal, kst (if p then s else s')) := by split <;> rfl
theorem m_St {p : Prop} [Decidable p] {e e' : Env} {H H' : Heap} : (if p then St.mk e H else St.mk e' H') = St.mk (if p then e else e') (if p then H else H') := by split <;> rfl
theorem m_upd {p : Prop} [Decidable p] {e e' : Env} {u v : V} : (if p then upd e t u else upd e' t v) = upd (if p then e else e') t (if p then u else v) := by split <;> rfl
theorem m_hp {p : Prop} [Decidable p] {B : Heap} {L L' : List Box} : (if p then hp B L else hp B L') = hp B (if p then L else L') := by split <;> rfl
theorem m_cons {α : Type} {p : Prop} [Decidable p] {a b : α} {l l' : List α} : (if p then a :: l else b :: l') = (if p then a else b) :: (if p then l else l') := by split <;> rfl
theorem m_Box {p : Prop} [Decidable p] {a : Bool} {l l' : List C} : (if p then Box.mk a l else Box.mk a l') = Box.mk a (if p then l else l') := by split <;> rfl
theorem m_V {p : Prop} [Decidable p] {x y : C} : (if p then V.c x else V.c y) = V.c (if p then x else y) := by split <;> rfl
theorem m_d {p : Prop} [Decidable p] {x y : D} : (if p then C.d x else C.d y) = C.d (if p then x else y) := by split <;> rfl
theorem m_b {p : Prop} [Decidable p] {x y : Bool} : (if p then D.b x else D.b y) = D.b (if p then x else y) := by split <;> rfl
theorem m_i {p : Prop} [Decidable p] {k : IntKind} {x y : Int} : (if p then D.i k x else D.i k y) = D.i k (if p then x else y) := by split <;> rfl

/-! ### Whole functions -/
theorem callL_hp {f : Nat} {args : List V} {kf : KFn} (hf : fns f = some kf) (hn : args.length = kf.np) : callL fns ext f args H = finN kf H.length (runL fns ext kf.body ⟨env0 args, hp H []⟩) := by
  rw [← hp_nil]; exact callL_eq hf hn
theorem finish_eq {kf : KFn} {n0 : Nat} : finish kf n0 ⟨e, H⟩ = bO (resAll n0 kf.mode ⟨e, H⟩ kf.res) fun vs => bX (if kf.mode = 2 then H else H.take n0) fun H' => some (retV vs, H') := by
  simp only [finish]; cases resAll n0 kf.mode ⟨e, H⟩ kf.res <;> rfl
/-- A function's end, by what it hands back. -/
def finF (res : List KRes) (mode n0 : Nat) (x : Option (Ex × St)) : Option (V × Heap) := finN ⟨0, 0, res, mode, .skip⟩ n0 x
theorem finF_normal {res : List KRes} {mode n0 : Nat} : finF res mode n0 (some (.normal, ⟨e, H⟩)) = bO (resAll n0 mode ⟨e, H⟩ res) fun vs => bX (if mode = 2 then H else H.take n0) fun H' => some (retV vs, H') := finish_eq
theorem finF_ret {res : List KRes} {mode n0 : Nat} : finF res mode n0 (some (.ret, ⟨e, H⟩)) = bO (resAll n0 mode ⟨e, H⟩ res) fun vs => bX (if mode = 2 then H else H.take n0) fun H' => some (retV vs, H') := finish_eq
theorem finF_kst {res : List KRes} {mode n0 : Nat} {x : Ex} : finF res mode n0 (some (x, kst s)) = finF res mode n0 (some (x, s)) := rfl
theorem finF_ite {res : List KRes} {mode n0 : Nat} {p : Prop} [Decidable p] {x y : Option (Ex × St)} : finF res mode n0 (if p then x else y) = if p then finF res mode n0 x else finF res mode n0 y := by split <;> rfl
theorem callL_F {f : Nat} {args : List V} {kf : KFn} (hf : fns f = some kf) (hn : args.length = kf.np) : callL fns ext f args H = finF kf.res kf.mode H.length (runL fns ext kf.body ⟨env0 args, hp H []⟩) := callL_hp hf hn
theorem resAll_nil {n0 mode : Nat} : resAll n0 mode s [] = some [] := rfl
theorem resAll_cons {n0 mode : Nat} {r : KRes} {rs : List KRes} : resAll n0 mode s (r :: rs) = bO (resOne n0 mode s r) fun v => bO (resAll n0 mode s rs) fun vs => if mode = 2 then some (v :: vs) else if bdV v ≤ n0 then some (v :: vs) else none := by
  simp only [resAll]
  cases resOne n0 mode s r with
  | none => rfl
  | some v => simp only [bO]; cases resAll n0 mode s rs <;> rfl
def resT (n0 mode : Nat) (H : Heap) : V → Option V
  | .c x => bO (resVal n0 mode H x) fun y => some (.c y)
  | .agg zs => bO (resVals n0 (if mode = 1 then 0 else mode) H zs) fun ys => some (.agg ys)
  | _ => none
theorem resT_c {n0 mode : Nat} {x : C} : resT n0 mode H (.c x) = bO (resVal n0 mode H x) fun y => some (.c y) := rfl
theorem resT_agg {n0 mode : Nat} {zs : List C} : resT n0 mode H (.agg zs) = bO (resVals n0 (if mode = 1 then 0 else mode) H zs) fun ys => some (.agg ys) := rfl
theorem resOne_t {n0 mode : Nat} : resOne n0 mode ⟨e, H⟩ (.t t) = bX (e t) fun v => resT n0 mode H v := by
  simp only [resOne, bX]
  cases e t with
  | c x => simp only [resT]; cases resVal n0 mode H x <;> rfl
  | agg zs => simp only [resT]; cases resVals n0 (if mode = 1 then 0 else mode) H zs <;> rfl
  | tup => rfl
theorem resOne_cell {n0 mode : Nat} : resOne n0 mode ⟨e, H⟩ (.cell t) = bX (e t) fun v => bO (ldV H v) fun w => (match v with
    | .c (.ptr _ _) => resT n0 (if mode = 1 then 0 else mode) H w
    | _ => none) := by
  simp only [resOne, bX]
  cases e t with
  | c x => cases x with
    | ptr id off =>
      simp only [ldV, loadC]
      cases H[id]? with
      | none => rfl
      | some bx =>
        simp only [bO]
        cases bx.cells[off]? with
        | none => rfl
        | some x => simp only [Option.map_some, resT]; cases resVal n0 (if mode = 1 then 0 else mode) H (clC x) <;> rfl
    | cptr row off => simp only [ldV]; cases row[off]? <;> rfl
    | _ => rfl
  | agg zs => rfl
  | tup => rfl
theorem resOne_cells {n0 mode sz : Nat} : resOne n0 mode ⟨e, H⟩ (.cells t sz) = bX (e t) fun v => bO (ldaV H sz v) fun w => (match v, w with
    | .c (.ptr _ _), .agg zs => bO (resVals n0 (if mode = 1 then 0 else mode) H zs) fun ys => some (.agg ys)
    | _, _ => none) := by
  simp only [resOne, bX]
  cases e t with
  | c x => cases x with
    | ptr id off =>
      simp only [ldaV, loadA]
      cases H[id]? with
      | none => rfl
      | some bx =>
        simp only [bO, le?, bX]
        by_cases h : off + sz ≤ bx.cells.length
        · simp only [if_pos h]
          cases resVals n0 (if mode = 1 then 0 else mode) H (List.map clC (List.take sz (List.drop off bx.cells))) <;> rfl
        · simp [h]
    | cptr row off => simp only [ldaV, le?]; by_cases h : off + sz ≤ row.length <;> simp [h, bO, bX]
    | _ => rfl
  | agg zs => rfl
  | tup => rfl
theorem resVal_d {n0 mode : Nat} {x : D} : resVal n0 mode H (.d x) = some (.d x) := rfl
theorem resVal_ptr {n0 mode i o : Nat} : resVal n0 mode H (.ptr i o) = some (.ptr i o) := rfl
theorem resVal_view2 {n0 i o l z : Nat} : resVal n0 2 H (.view i o l z) = some (.view i o l z) := rfl
theorem resVal_nil {n0 sz : Nat} : resVal n0 0 H (.nil sz) = some (.d (.l sz [])) := rfl
theorem resVal_own {n0 en sz : Nat} {rows : List (List D)} : resVal n0 0 H (.own en sz rows) = some (.d (.l sz rows)) := rfl
theorem resVals_nil {n0 mode : Nat} : resVals n0 mode H [] = some [] := rfl
theorem resVals_cons {n0 mode : Nat} {x : C} {zs : List C} : resVals n0 mode H (x :: zs) = bO (resVal n0 mode H x) fun y => bO (resVals n0 mode H zs) fun ys => some (y :: ys) := by
  simp only [resVals]
  cases resVal n0 mode H x with
  | none => rfl
  | some v => simp only [bO]; cases resVals n0 mode H zs <;> rfl
theorem resVals_map {n0 mode : Nat} {ds : List D} : resVals n0 mode H (ds.map .d) = some (ds.map .d) := by
  induction ds with
  | nil => rfl
  | cons x xs ih => simp only [List.map_cons, resVals, resVal, ih]
theorem retV_one {v : V} : retV [v] = v := rfl
theorem retV_two {v u : V} {vs : List V} : retV (v :: u :: vs) = .tup (v :: u :: vs) := rfl
theorem bdV_d {x : D} : bdV (.c (.d x)) = 0 := rfl
theorem bdA_map {ds : List D} : bdA (ds.map .d) = 0 := by
  induction ds with
  | nil => rfl
  | cons x xs ih => simp only [List.map_cons, bdA, bd, ih]; rfl

/-! ### Whole numbers -/
def w64 (x : Int) : Int := IntKind.i64.wrap x
theorem w64_0 : w64 0 = 0 := by decide
theorem w64_1 : w64 1 = 1 := by decide
theorem w64_2 : w64 2 = 2 := by decide
theorem w64_3 : w64 3 = 3 := by decide
theorem w64_4 : w64 4 = 4 := by decide
theorem w64_5 : w64 5 = 5 := by decide
theorem w64_6 : w64 6 = 6 := by decide
theorem w64_7 : w64 7 = 7 := by decide
theorem w64_8 : w64 8 = 8 := by decide
theorem w64_9 : w64 9 = 9 := by decide
theorem w64_10 : w64 10 = 10 := by decide
theorem w64_11 : w64 11 = 11 := by decide
theorem w64_12 : w64 12 = 12 := by decide
theorem w64_13 : w64 13 = 13 := by decide
theorem w64_14 : w64 14 = 14 := by decide
theorem w64_15 : w64 15 = 15 := by decide
theorem w64_16 : w64 16 = 16 := by decide
theorem w64_17 : w64 17 = 17 := by decide
theorem w64_18 : w64 18 = 18 := by decide
theorem w64_19 : w64 19 = 19 := by decide
theorem w64_20 : w64 20 = 20 := by decide
theorem w64_21 : w64 21 = 21 := by decide
theorem w64_22 : w64 22 = 22 := by decide
theorem w64_23 : w64 23 = 23 := by decide
theorem w64_24 : w64 24 = 24 := by decide
theorem w64_25 : w64 25 = 25 := by decide
theorem w64_26 : w64 26 = 26 := by decide
theorem w64_27 : w64 27 = 27 := by decide
theorem w64_28 : w64 28 = 28 := by decide
theorem w64_29 : w64 29 = 29 := by decide
theorem w64_30 : w64 30 = 30 := by decide
theorem w64_31 : w64 31 = 31 := by decide
theorem w64_32 : w64 32 = 32 := by decide
theorem nat_0 : (((0 : Nat)) : Int) = 0 := rfl
theorem nat_1 : (((1 : Nat)) : Int) = 1 := rfl
theorem nat_2 : (((2 : Nat)) : Int) = 2 := rfl
theorem nat_3 : (((3 : Nat)) : Int) = 3 := rfl
theorem nat_4 : (((4 : Nat)) : Int) = 4 := rfl
theorem nat_5 : (((5 : Nat)) : Int) = 5 := rfl
theorem nat_6 : (((6 : Nat)) : Int) = 6 := rfl
theorem nat_7 : (((7 : Nat)) : Int) = 7 := rfl
theorem nat_8 : (((8 : Nat)) : Int) = 8 := rfl
theorem nat_9 : (((9 : Nat)) : Int) = 9 := rfl
theorem nat_10 : (((10 : Nat)) : Int) = 10 := rfl
theorem nat_11 : (((11 : Nat)) : Int) = 11 := rfl
theorem nat_12 : (((12 : Nat)) : Int) = 12 := rfl
theorem nat_13 : (((13 : Nat)) : Int) = 13 := rfl
theorem nat_14 : (((14 : Nat)) : Int) = 14 := rfl
theorem nat_15 : (((15 : Nat)) : Int) = 15 := rfl
theorem nat_16 : (((16 : Nat)) : Int) = 16 := rfl
theorem w64_m1 : w64 (-1) = -1 := by decide
def iand (k : IntKind) (a b : Int) : Int := k.wrap (BitVec.ofInt k.bits a &&& BitVec.ofInt k.bits b).toNat
def ior (k : IntKind) (a b : Int) : Int := k.wrap (BitVec.ofInt k.bits a ||| BitVec.ofInt k.bits b).toNat
def ixor (k : IntKind) (a b : Int) : Int := k.wrap (BitVec.ofInt k.bits a ^^^ BitVec.ofInt k.bits b).toNat
def ishl (k : IntKind) (a b : Int) : Int := k.wrap (a * 2 ^ min b.toNat k.bits)
def ishr (k : IntKind) (a b : Int) : Int := a.fdiv (2 ^ min b.toNat k.bits)
theorem w64_eq (x : Int) : IntKind.i64.wrap x = w64 x := rfl
section
variable {k k' : IntKind} {a b : Int}
theorem bin_add : binI .add k k a b = some (.i k (k.wrap (a + b))) := by simp [binI]
theorem bin_sub : binI .sub k k a b = some (.i k (k.wrap (a - b))) := by simp [binI]
theorem bin_mul : binI .mul k k a b = some (.i k (k.wrap (a * b))) := by simp [binI]
theorem bin_quo : binI .quo k k a b = if b = 0 then none else some (.i k (k.wrap (a.tdiv b))) := by simp [binI]
theorem bin_rem : binI .rem k k a b = if b = 0 then none else some (.i k (a.tmod b)) := by simp [binI]
theorem bin_and : binI .and k k a b = some (.i k (iand k a b)) := by simp [binI, iand]
theorem bin_or : binI .or k k a b = some (.i k (ior k a b)) := by simp [binI, ior]
theorem bin_xor : binI .xor k k a b = some (.i k (ixor k a b)) := by simp [binI, ixor]
theorem bin_shl : binI .shl k k' a b = if b < 0 then none else some (.i k (ishl k a b)) := by simp [binI, ishl]
theorem bin_shr : binI .shr k k' a b = if b < 0 then none else some (.i k (ishr k a b)) := by simp [binI, ishr]
theorem bin_eql : binI .eql k k a b = some (.b (decide (a = b))) := by simp [binI]; rfl
theorem bin_neq : binI .neq k k a b = some (.b (decide (¬ a = b))) := by
  simp only [binI, if_pos rfl]; by_cases h : a = b <;> simp [h]
theorem bin_lss : binI .lss k k a b = some (.b (decide (a < b))) := by simp [binI]
theorem bin_leq : binI .leq k k a b = some (.b (decide (a ≤ b))) := by simp [binI]
theorem bin_gtr : binI .gtr k k a b = some (.b (decide (b < a))) := by simp [binI]
theorem bin_geq : binI .geq k k a b = some (.b (decide (b ≤ a))) := by simp [binI]
end
end
end Go.Ab
