/-
  More rules to run the abstract machine: lists that grow, and the judge's memory.
  Conditions: none.
-/
import Derived.Test.YtnnjmbblpmghfaaGreatW
import Derived.Test.YtnnjmbblpmghfaaGreatDt
set_option linter.unusedSimpArgs false
set_option linter.unusedVariables false
namespace Go.Ab
section
variable {c : Callee} {e : Env} {H : Heap} {d t : Nat} {v : V}
theorem natOf_none {dflt : Nat} : natOf e none dflt = some dflt := rfl
def nnV : V → Option Nat
  | .c (.d (.i _ n)) => nn? n
  | _ => none
theorem nnV_i {k : IntKind} {n : Int} : nnV (.c (.d (.i k n))) = nn? n := rfl
theorem natOf_some {x : Opd} {dflt : Nat} : natOf e (some x) dflt = bX (ev e x) fun v => nnV v := by
  simp only [natOf, bX]
  generalize ev e x = u
  cases u with
  | c u => cases u with
    | d u => cases u <;> rfl
    | _ => rfl
  | _ => rfl
def ixV (n : Nat) (x i : V) : Option V :=
  match x, i with
  | .agg xs, .c (.d (.i _ j)) => bO (nn? j) fun j => bO (lt? j n) fun _ => bO xs[j]? fun y => some (.c y)
  | _, _ => none
theorem ixV_a {n : Nat} {xs : List C} {k : IntKind} {j : Int} : ixV n (.agg xs) (.c (.d (.i k j))) = bO (nn? j) fun j => bO (lt? j n) fun _ => bO xs[j]? fun y => some (.c y) := rfl
theorem qv_ix2 {n : Nat} {x i : Opd} : qv e H (.ix n x i) = bX (ev e x) fun a => bX (ev e i) fun b => ixV n a b := by
  simp only [qv, bX]
  generalize ev e x = u; generalize ev e i = u'
  cases u with
  | agg xs =>
    cases u' with
    | c u' => cases u' with
      | d u' => cases u' with
        | i k j =>
          simp only [ixV, nn?, lt?]
          by_cases h1 : 0 ≤ j
          · by_cases h2 : j.toNat < n
            · simp only [if_pos h1, if_pos h2, bO]; cases xs[j.toNat]? <;> rfl
            · simp [h1, h2, bO]
          · simp [h1, bO]
        | _ => rfl
      | _ => rfl
    | _ => rfl
  | _ => rfl
def ixaV (n sz : Nat) (x i : V) : Option V :=
  match x, i with
  | .agg xs, .c (.d (.i _ j)) => bO (nn? j) fun j => bO (lt? j n) fun _ => bO (le? (j * sz + sz) xs.length) fun _ => some (.agg ((xs.drop (j * sz)).take sz))
  | _, _ => none
theorem ixaV_a {n sz : Nat} {xs : List C} {k : IntKind} {j : Int} : ixaV n sz (.agg xs) (.c (.d (.i k j))) = bO (nn? j) fun j => bO (lt? j n) fun _ => bO (le? (j * sz + sz) xs.length) fun _ => some (.agg ((xs.drop (j * sz)).take sz)) := rfl
theorem qv_ixa2 {n sz : Nat} {x i : Opd} : qv e H (.ixa n sz x i) = bX (ev e x) fun a => bX (ev e i) fun b => ixaV n sz a b := by
  simp only [qv, bX]
  generalize ev e x = u; generalize ev e i = u'
  cases u with
  | agg xs =>
    cases u' with
    | c u' => cases u' with
      | d u' => cases u' with
        | i k j =>
          simp only [ixaV, nn?, lt?, le?]
          by_cases h1 : 0 ≤ j
          · by_cases h2 : j.toNat < n
            · by_cases h3 : j.toNat * sz + sz ≤ xs.length <;> simp [h1, h2, h3, bO]
            · simp [h1, h2, bO]
          · simp [h1, bO]
        | _ => rfl
      | _ => rfl
    | _ => rfl
  | _ => rfl
def slsV (e : Env) (sz : Nat) (lo hi : Option Opd) (a : V) : Option V :=
  match a with
  | .c (.d (.l sz' rows)) => bO (eq? sz' sz) fun _ => bO (natOf e lo 0) fun l => bO (natOf e hi rows.length) fun h => bO (le? l h) fun _ => bO (le? h rows.length) fun _ => some (.c (.d (.l sz ((rows.drop l).take (h - l)))))
  | .c (.nil sz') => bO (eq? sz' sz) fun _ => bO (natOf e lo 0) fun l => bO (natOf e hi 0) fun h => bO (le? l h) fun _ => bO (eq? h 0) fun _ => some (.c (.nil sz))
  | .c (.view id off len sz') => bO (eq? sz' sz) fun _ => bO (natOf e lo 0) fun l => bO (natOf e hi len) fun h => bO (lt? l h) fun _ => bO (le? h len) fun _ => some (.c (.view id (off + l * sz) (h - l) sz))
  | _ => none
theorem slsV_n {sz sz' : Nat} {lo hi : Option Opd} : slsV e sz lo hi (.c (.nil sz')) = bO (eq? sz' sz) fun _ => bO (natOf e lo 0) fun l => bO (natOf e hi 0) fun h => bO (le? l h) fun _ => bO (eq? h 0) fun _ => some (.c (.nil sz)) := rfl
theorem slsV_v {sz sz' id off len : Nat} {lo hi : Option Opd} : slsV e sz lo hi (.c (.view id off len sz')) = bO (eq? sz' sz) fun _ => bO (natOf e lo 0) fun l => bO (natOf e hi len) fun h => bO (lt? l h) fun _ => bO (le? h len) fun _ => some (.c (.view id (off + l * sz) (h - l) sz)) := rfl
theorem qv_sls2 {sz : Nat} {x : Opd} {lo hi : Option Opd} : qv e H (.sls sz x lo hi) = bX (ev e x) fun a => slsV e sz lo hi a := by
  simp only [bX]
  generalize hu : ev e x = u
  cases u with
  | c u => cases u with
    | d u => cases u with
      | l sz' rows =>
        simp only [qv, hu, eq?, le?, bO, slsV]
        by_cases h : sz' = sz
        · simp only [if_pos h]
          cases natOf e lo 0 with
          | none => rfl
          | some l =>
            simp only
            cases natOf e hi rows.length with
            | none => rfl
            | some h => simp only; by_cases h1 : l ≤ h <;> by_cases h2 : h ≤ rows.length <;> simp [h1, h2]
        · simp [h]
      | _ => simp only [qv, hu, slsV]
    | nil sz' =>
      simp only [qv, hu, eq?, le?, bO, slsV]
      by_cases h : sz' = sz
      · simp only [if_pos h]
        cases natOf e lo 0 with
        | none => rfl
        | some l =>
          simp only
          cases natOf e hi 0 with
          | none => rfl
          | some h =>
            by_cases h2 : h = 0
            · subst h2; by_cases h1 : l = 0 <;> simp [h1]
            · by_cases h1 : l ≤ h <;> simp [h1, h2]
      · simp [h]
    | view id off len sz' =>
      simp only [qv, hu, eq?, le?, lt?, bO, slsV]
      by_cases h : sz' = sz
      · simp only [if_pos h]
        cases natOf e lo 0 with
        | none => rfl
        | some l =>
          simp only
          cases natOf e hi len with
          | none => rfl
          | some h => simp only; by_cases h1 : l < h <;> by_cases h2 : h ≤ len <;> simp [h1, h2]
      · simp [h]
    | _ => simp only [qv, hu, slsV]
  | agg => simp only [qv, hu, slsV]
  | tup => simp only [qv, hu, slsV]
theorem slsV_l {sz sz' : Nat} {lo hi : Option Opd} {rows : List (List D)} : slsV e sz lo hi (.c (.d (.l sz' rows))) = bO (eq? sz' sz) fun _ => bO (natOf e lo 0) fun l => bO (natOf e hi rows.length) fun h => bO (le? l h) fun _ => bO (le? h rows.length) fun _ => some (.c (.d (.l sz ((rows.drop l).take (h - l))))) := rfl
def appV (e : Env) (H : Heap) (d en sz bytes x : Nat) (u w : V) : Option St :=
  match u, w with
  | .c (.own e' sz' rows), .c (.d (.l sz'' new)) => bO (eq? e' en) fun _ => bO (eq? sz' sz) fun _ => bO (eq? sz'' sz) fun _ => bO (le? ((rows.length + new.length) * bytes) 140737488355328) fun _ => some ⟨upd (upd e x (.c (.d (.l sz rows)))) d (.c (.own en sz (rows ++ new))), H⟩
  | .c (.nil sz'), .c (.d (.l sz'' new)) => bO (eq? sz' sz) fun _ => bO (eq? sz'' sz) fun _ => bO (le? (new.length * bytes) 140737488355328) fun _ => some ⟨upd (upd e x (.c (.nil sz'))) d (.c (.own en sz new)), H⟩
  | _, _ => none
theorem step_app {en sz bytes x : Nat} {y : Opd} : step c ⟨e, H⟩ (.app d en sz bytes x y) = bX (e x) fun u => bX (ev e y) fun w => appV e H d en sz bytes x u w := by
  simp only [step, bX]
  generalize hu : e x = u
  generalize ev e y = w
  cases u with
  | c u =>
    cases u with
    | own e' sz' rows =>
      cases w with
      | c w => cases w with
        | d w => cases w with
          | l sz'' new =>
            simp only [appV, eq?, le?]
            by_cases h1 : e' = en
            · subst h1
              by_cases h2 : sz' = sz
              · subst h2
                by_cases h3 : sz'' = sz'
                · by_cases h4 : (rows.length + new.length) * bytes ≤ 140737488355328 <;> simp [h3, h4, bO]
                · simp [h3, bO]
              · simp [h2, bO]
            · simp [h1, bO]
          | _ => rfl
        | _ => rfl
      | _ => rfl
    | nil sz' =>
      cases w with
      | c w => cases w with
        | d w => cases w with
          | l sz'' new =>
            simp only [appV, eq?, le?]
            rw [upd_self hu]
            by_cases h2 : sz' = sz
            · subst h2
              by_cases h3 : sz'' = sz'
              · by_cases h4 : new.length * bytes ≤ 140737488355328 <;> simp [h3, h4, bO]
              · simp [h3, bO]
            · simp [h2, bO]
          | _ => rfl
        | _ => rfl
      | _ => rfl
    | _ => rfl
  | _ => rfl
theorem allD_nil : allD [] = some [] := rfl
theorem allD_d {x : D} {xs : List C} : allD (.d x :: xs) = bO (allD xs) fun ys => some (x :: ys) := by
  simp only [allD, toD]; cases allD xs <;> rfl
theorem allD_n {sz : Nat} {xs : List C} : allD (.nil sz :: xs) = bO (allD xs) fun ys => some (.l sz [] :: ys) := by
  simp only [allD, toD]; cases allD xs <;> rfl
theorem step_bsl {en sz n : Nat} {z : List C} {ps : List (Nat × Nat × Opd)} : step c ⟨e, H⟩ (.bsl d en sz n z ps) = bO (putAll e ((List.replicate n z).flatten) ps) fun cs => bO (allD cs) fun l => bO (isLen z sz) fun _ => some ⟨upd e d (.c (.own en sz (chop sz n l))), H⟩ := by
  simp only [step, isLen]
  cases putAll e ((List.replicate n z).flatten) ps with
  | none => rfl
  | some cs =>
    simp only [bO]
    cases allD cs with
    | none => rfl
    | some l => by_cases h : z.length = sz <;> simp [h]
theorem chop_0 {sz : Nat} {l : List D} : chop sz 0 l = [] := rfl
theorem chop_s {sz n : Nat} {l : List D} : chop sz (n + 1) l = l.take sz :: chop sz n (l.drop sz) := rfl
theorem chop_11 {a : D} : chop 1 1 [a] = [[a]] := rfl
theorem chop_21 {a b : D} : chop 2 1 [a, b] = [[a, b]] := rfl
/-- A list that grows: nothing yet, or owned. -/
def ownL {α : Type} (en sz : Nat) (f : α → List D) : List α → C
  | [] => .nil sz
  | l => .own en sz (l.map f)
def ownCl {α : Type} (sz : Nat) (f : α → List D) : List α → C
  | [] => .nil sz
  | l => .d (.l sz (l.map f))
section
variable {α : Type} {en sz bytes x : Nat} {f : α → List D} {l : List α} {a : α}
theorem ownL_nil (en sz : Nat) (f : α → List D) : C.nil sz = ownL en sz f ([] : List α) := rfl
theorem cl_ownL : cl (.c (ownL en sz f l)) = .c (ownCl sz f l) := by cases l <;> rfl
theorem cl_ownCl : cl (.c (ownCl sz f l)) = .c (ownCl sz f l) := by cases l <;> rfl
theorem clC_ownL : clC (ownL en sz f l) = ownCl sz f l := by cases l <;> rfl
theorem clC_ownCl : clC (ownCl sz f l) = ownCl sz f l := by cases l <;> rfl
theorem nm_ownCl : nm (.c (ownCl sz f l)) = .c (.d (.l sz (l.map f))) := by cases l <;> rfl
theorem nmC_ownCl : nmC (ownCl sz f l) = .d (.l sz (l.map f)) := by cases l <;> rfl
theorem bd_ownL : bd (ownL en sz f l) = 0 := by cases l <;> rfl
theorem bd_ownCl : bd (ownCl sz f l) = 0 := by cases l <;> rfl
theorem resVal_ownCl {n0 : Nat} : resVal n0 0 H (ownCl sz f l) = some (.d (.l sz (l.map f))) := by cases l <;> rfl
theorem resVal_ownL {n0 : Nat} : resVal n0 0 H (ownL en sz f l) = some (.d (.l sz (l.map f))) := by cases l <;> rfl
theorem lenV_ownCl : lenV (.c (ownCl sz f l)) = lenV (.c (.d (.l sz (l.map f)))) := by cases l <;> rfl
theorem vcells_ownCl : vcells (.c (ownCl sz f l)) = some [ownCl sz f l] := by cases l <;> rfl
theorem toD_ownCl : toD (ownCl sz f l) = some (.l sz (l.map f)) := by cases l <;> rfl
theorem allD_ownCl {xs : List C} : allD (ownCl sz f l :: xs) = bO (allD xs) fun ys => some (.l sz (l.map f) :: ys) := by
  simp only [allD, toD_ownCl]; cases allD xs <;> rfl
theorem app_own1 {z : List D} (h : z = f a) : appV e H d en sz bytes x (.c (ownL en sz f l)) (.c (.d (.l sz [z]))) = bO (le? ((l.length + 1) * bytes) 140737488355328) fun _ => some ⟨upd (upd e x (.c (ownCl sz f l))) d (.c (ownL en sz f (l ++ [a]))), H⟩ := by
  subst h
  cases l with
  | nil => simp [ownL, appV, eq?, bO, ownCl]
  | cons y l => simp [ownL, appV, eq?, bO, ownCl]
end
theorem app_i64 {en bytes x : Nat} {l : List Int} {a : Int} : appV e H d en 1 bytes x (.c (ownL en 1 ei64 l)) (.c (.d (.l 1 [[.i .i64 a]]))) = bO (le? ((l.length + 1) * bytes) 140737488355328) fun _ => some ⟨upd (upd e x (.c (ownCl 1 ei64 l))) d (.c (ownL en 1 ei64 (l ++ [a]))), H⟩ := app_own1 rfl
theorem app_Span {en bytes x : Nat} {l : List Span} {a b : Int} : appV e H d en 2 bytes x (.c (ownL en 2 Span.enc l)) (.c (.d (.l 2 [[.i .i64 a, .i .i64 b]]))) = bO (le? ((l.length + 1) * bytes) 140737488355328) fun _ => some ⟨upd (upd e x (.c (ownCl 2 Span.enc l))) d (.c (ownL en 2 Span.enc (l ++ [⟨a, b⟩]))), H⟩ := app_own1 rfl
end
/-! The memory of a judge of scripts: what is known ahead, and what comes later. -/
def AJ (c : Config) (t : Track) (s : Script) (l : List C) : List C := (Config.enc c).map .d ++ ((Track.enc t).map .d ++ ((Script.enc s).map .d ++ l))
theorem AJ_0 (c : Config) (t : Track) (s : Script) (l : List C) : (AJ c t s l)[0]? = some (.d (.i .i64 c.pulses)) := rfl
theorem AJ_1 (c : Config) (t : Track) (s : Script) (l : List C) : (AJ c t s l)[1]? = some (.d (.i .i64 c.circLo)) := rfl
theorem AJ_2 (c : Config) (t : Track) (s : Script) (l : List C) : (AJ c t s l)[2]? = some (.d (.i .i64 c.circHi)) := rfl
theorem AJ_3 (c : Config) (t : Track) (s : Script) (l : List C) : (AJ c t s l)[3]? = some (.d (.i .i64 c.radBase)) := rfl
theorem AJ_4 (c : Config) (t : Track) (s : Script) (l : List C) : (AJ c t s l)[4]? = some (.d (.i .i64 c.radPart)) := rfl
theorem AJ_5 (c : Config) (t : Track) (s : Script) (l : List C) : (AJ c t s l)[5]? = some (.d (.i .i64 c.accErr)) := rfl
theorem AJ_6 (c : Config) (t : Track) (s : Script) (l : List C) : (AJ c t s l)[6]? = some (.d (.i .i64 c.maxSpeed)) := rfl
theorem AJ_7 (c : Config) (t : Track) (s : Script) (l : List C) : (AJ c t s l)[7]? = some (.d (.i .i64 c.maxAccel)) := rfl
theorem AJ_8 (c : Config) (t : Track) (s : Script) (l : List C) : (AJ c t s l)[8]? = some (.d (.i .i64 c.antenna)) := rfl
theorem AJ_9 (c : Config) (t : Track) (s : Script) (l : List C) : (AJ c t s l)[9]? = some (.d (.i .i64 c.still)) := rfl
theorem AJ_10 (c : Config) (t : Track) (s : Script) (l : List C) : (AJ c t s l)[10]? = some (.d (.i .i64 c.stillSpeed)) := rfl
theorem AJ_11 (c : Config) (t : Track) (s : Script) (l : List C) : (AJ c t s l)[11]? = some (.d (.i .i64 c.roll)) := rfl
theorem AJ_12 (c : Config) (t : Track) (s : Script) (l : List C) : (AJ c t s l)[12]? = some (.d (.i .i64 c.timeout)) := rfl
theorem AJ_13 (c : Config) (t : Track) (s : Script) (l : List C) : (AJ c t s l)[13]? = some (.d (.i .i64 c.brake)) := rfl
theorem AJ_14 (c : Config) (t : Track) (s : Script) (l : List C) : (AJ c t s l)[14]? = some (.d (.l 3 (t.segments.map Segment.enc))) := rfl
theorem AJ_15 (c : Config) (t : Track) (s : Script) (l : List C) : (AJ c t s l)[15]? = some (.d (.l 5 (t.groups.map Group.enc))) := rfl
theorem AJ_16 (c : Config) (t : Track) (s : Script) (l : List C) : (AJ c t s l)[16]? = some (.d (.l 1 (s.route.map ei64))) := rfl
theorem AJ_17 (c : Config) (t : Track) (s : Script) (l : List C) : (AJ c t s l)[17]? = some (.d (.i .i64 s.start)) := rfl
theorem AJ_18 (c : Config) (t : Track) (s : Script) (l : List C) : (AJ c t s l)[18]? = some (.d (.i .i64 s.v0)) := rfl
theorem AJ_19 (c : Config) (t : Track) (s : Script) (l : List C) : (AJ c t s l)[19]? = some (.d (.i .i64 (s.circ 0))) := rfl
theorem AJ_20 (c : Config) (t : Track) (s : Script) (l : List C) : (AJ c t s l)[20]? = some (.d (.i .i64 (s.circ 1))) := rfl
theorem AJ_21 (c : Config) (t : Track) (s : Script) (l : List C) : (AJ c t s l)[21]? = some (.d (.i .i64 (s.phase 0))) := rfl
theorem AJ_22 (c : Config) (t : Track) (s : Script) (l : List C) : (AJ c t s l)[22]? = some (.d (.i .i64 (s.phase 1))) := rfl
theorem AJ_23 (c : Config) (t : Track) (s : Script) (l : List C) : (AJ c t s l)[23]? = some (.d (.l 11 (s.ticks.map Tick.enc))) := rfl
theorem AJ_24 (c : Config) (t : Track) (s : Script) (l : List C) : (AJ c t s l)[24]? = some (.d (.l 4 (s.reads.map Read.enc))) := rfl
theorem AJ_25 (c : Config) (t : Track) (s : Script) (a : C) (l : List C) : (AJ c t s (a :: l))[25]? = some a := rfl
theorem AJ_26 (c : Config) (t : Track) (s : Script) (a b : C) (l : List C) : (AJ c t s (a :: b :: l))[26]? = some b := rfl
theorem AJ_27 (c : Config) (t : Track) (s : Script) (a b d : C) (l : List C) : (AJ c t s (a :: b :: d :: l))[27]? = some d := rfl
theorem AJs_0 (c : Config) (t : Track) (s : Script) (l : List C) : (AJ c t s l).take 14 = (Config.enc c).map .d := rfl
theorem AJl_14 (c : Config) (t : Track) (s : Script) (l : List C) : (14 ≤ (AJ c t s l).length) = True := by simp [AJ, Config.enc, Track.enc, Script.enc]; try omega
theorem AJs_14 (c : Config) (t : Track) (s : Script) (l : List C) : ((AJ c t s l).drop 14).take 2 = (Track.enc t).map .d := rfl
theorem AJl_16 (c : Config) (t : Track) (s : Script) (l : List C) : (16 ≤ (AJ c t s l).length) = True := by simp [AJ, Config.enc, Track.enc, Script.enc]; try omega
theorem AJs_16 (c : Config) (t : Track) (s : Script) (l : List C) : ((AJ c t s l).drop 16).take 9 = (Script.enc s).map .d := rfl
theorem AJl_25 (c : Config) (t : Track) (s : Script) (l : List C) : (25 ≤ (AJ c t s l).length) = True := by simp [AJ, Config.enc, Track.enc, Script.enc]; try omega
theorem AJs_19 (c : Config) (t : Track) (s : Script) (l : List C) : ((AJ c t s l).drop 19).take 2 = [.d (.i .i64 (s.circ 0)), .d (.i .i64 (s.circ 1))] := rfl
theorem AJl_21 (c : Config) (t : Track) (s : Script) (l : List C) : (21 ≤ (AJ c t s l).length) = True := by simp [AJ, Config.enc, Track.enc, Script.enc]; try omega
theorem AJs_21 (c : Config) (t : Track) (s : Script) (l : List C) : ((AJ c t s l).drop 21).take 2 = [.d (.i .i64 (s.phase 0)), .d (.i .i64 (s.phase 1))] := rfl
theorem AJl_23 (c : Config) (t : Track) (s : Script) (l : List C) : (23 ≤ (AJ c t s l).length) = True := by simp [AJ, Config.enc, Track.enc, Script.enc]; try omega
theorem AJs_26 (c : Config) (t : Track) (s : Script) (a b d : C) : ((AJ c t s [a, b, d]).drop 26).take 2 = [b, d] := rfl
theorem AJl_28 (c : Config) (t : Track) (s : Script) (a b d : C) : (28 ≤ (AJ c t s [a, b, d]).length) = True := by simp [AJ, Config.enc, Track.enc, Script.enc]
attribute [go_sem ↓] cl_ownL cl_ownCl clC_ownL clC_ownCl nm_ownCl nmC_ownCl bd_ownL bd_ownCl resVal_ownCl resVal_ownL lenV_ownCl vcells_ownCl toD_ownCl allD_ownCl qv_ix2 qv_ixa2 qv_sls2 natOf_none natOf_some step_app step_bsl
attribute [go_sem] ixV_a ixaV_a slsV_l slsV_n slsV_v Nat.max_le and_true true_and and_self nnV_i allD_nil allD_d allD_n allD_ownCl chop_11 chop_21 cl_ownL cl_ownCl clC_ownL clC_ownCl nm_ownCl nmC_ownCl bd_ownL bd_ownCl resVal_ownCl resVal_ownL lenV_ownCl vcells_ownCl toD_ownCl app_i64 app_Span List.flatten_cons List.flatten_nil AJ_0 AJ_1 AJ_2 AJ_3 AJ_4 AJ_5 AJ_6 AJ_7 AJ_8 AJ_9 AJ_10 AJ_11 AJ_12 AJ_13 AJ_14 AJ_15 AJ_16 AJ_17 AJ_18 AJ_19 AJ_20 AJ_21 AJ_22 AJ_23 AJ_24 AJ_25 AJ_26 AJ_27 AJs_0 AJl_14 AJs_14 AJl_16 AJs_16 AJl_25 AJs_19 AJl_21 AJs_21 AJl_23 AJs_26 AJl_28
end Go.Ab
