/-
  The program's data, typed: one structure for each Go struct of pure data, and what its cells are. Printed by a program.
  Conditions: none.
-/
import Derived.Test.YtnnjmbblpmghfaaGreatA
namespace Go.Ab
def ei64 (x : Int) : List D := [.i .i64 x]
def eu8 (x : Int) : List D := [.i .u8 x]
def eb (x : Bool) : List D := [.b x]
def eL {α : Type} (sz : Nat) (f : α → List D) (x : List α) : List D := [.l sz (x.map f)]
theorem ei64_0 (x : Int) : (ei64 x)[0]? = some (.i .i64 x) := rfl
theorem eu8_0 (x : Int) : (eu8 x)[0]? = some (.i .u8 x) := rfl
theorem eL_0 {α : Type} (sz : Nat) (f : α → List D) (x : List α) : (eL sz f x)[0]? = some (.l sz (x.map f)) := rfl
theorem map_clC (l : List D) : (l.map C.d).map clC = l.map C.d := by simp [clC]
theorem map_nmC (l : List D) : (l.map C.d).map nmC = l.map C.d := by simp [nmC]
structure Config where
  pulses : Int
  circLo : Int
  circHi : Int
  radBase : Int
  radPart : Int
  accErr : Int
  maxSpeed : Int
  maxAccel : Int
  antenna : Int
  still : Int
  stillSpeed : Int
  roll : Int
  timeout : Int
  brake : Int
def Config.enc (x : Config) : List D := [.i .i64 x.pulses, .i .i64 x.circLo, .i .i64 x.circHi, .i .i64 x.radBase, .i .i64 x.radPart, .i .i64 x.accErr, .i .i64 x.maxSpeed, .i .i64 x.maxAccel, .i .i64 x.antenna, .i .i64 x.still, .i .i64 x.stillSpeed, .i .i64 x.roll, .i .i64 x.timeout, .i .i64 x.brake]
theorem Config.enc_len (x : Config) : (Config.enc x).length = 14 := rfl
theorem Config.enc_0 (x : Config) : (Config.enc x)[0]? = some (.i .i64 x.pulses) := rfl
theorem Config.enc_1 (x : Config) : (Config.enc x)[1]? = some (.i .i64 x.circLo) := rfl
theorem Config.enc_2 (x : Config) : (Config.enc x)[2]? = some (.i .i64 x.circHi) := rfl
theorem Config.enc_3 (x : Config) : (Config.enc x)[3]? = some (.i .i64 x.radBase) := rfl
theorem Config.enc_4 (x : Config) : (Config.enc x)[4]? = some (.i .i64 x.radPart) := rfl
theorem Config.enc_5 (x : Config) : (Config.enc x)[5]? = some (.i .i64 x.accErr) := rfl
theorem Config.enc_6 (x : Config) : (Config.enc x)[6]? = some (.i .i64 x.maxSpeed) := rfl
theorem Config.enc_7 (x : Config) : (Config.enc x)[7]? = some (.i .i64 x.maxAccel) := rfl
theorem Config.enc_8 (x : Config) : (Config.enc x)[8]? = some (.i .i64 x.antenna) := rfl
theorem Config.enc_9 (x : Config) : (Config.enc x)[9]? = some (.i .i64 x.still) := rfl
theorem Config.enc_10 (x : Config) : (Config.enc x)[10]? = some (.i .i64 x.stillSpeed) := rfl
theorem Config.enc_11 (x : Config) : (Config.enc x)[11]? = some (.i .i64 x.roll) := rfl
theorem Config.enc_12 (x : Config) : (Config.enc x)[12]? = some (.i .i64 x.timeout) := rfl
theorem Config.enc_13 (x : Config) : (Config.enc x)[13]? = some (.i .i64 x.brake) := rfl
theorem Config.enc_all (x : Config) : (Config.enc x).take 14 = Config.enc x := rfl
theorem Config.encC_all (x : Config) : ((Config.enc x).map C.d).take 14 = (Config.enc x).map C.d := rfl
structure Piece where
  from_ : Int
  grade : Int
def Piece.enc (x : Piece) : List D := [.i .i64 x.from_, .i .i64 x.grade]
theorem Piece.enc_len (x : Piece) : (Piece.enc x).length = 2 := rfl
theorem Piece.enc_0 (x : Piece) : (Piece.enc x)[0]? = some (.i .i64 x.from_) := rfl
theorem Piece.enc_1 (x : Piece) : (Piece.enc x)[1]? = some (.i .i64 x.grade) := rfl
theorem Piece.enc_all (x : Piece) : (Piece.enc x).take 2 = Piece.enc x := rfl
theorem Piece.encC_all (x : Piece) : ((Piece.enc x).map C.d).take 2 = (Piece.enc x).map C.d := rfl
structure Segment where
  length : Int
  pieces : List Piece
  next : List Int
def Segment.enc (x : Segment) : List D := [.i .i64 x.length, .l 2 (x.pieces.map Piece.enc), .l 1 (x.next.map ei64)]
theorem Segment.enc_len (x : Segment) : (Segment.enc x).length = 3 := rfl
theorem Segment.enc_0 (x : Segment) : (Segment.enc x)[0]? = some (.i .i64 x.length) := rfl
theorem Segment.enc_1 (x : Segment) : (Segment.enc x)[1]? = some (.l 2 (x.pieces.map Piece.enc)) := rfl
theorem Segment.enc_2 (x : Segment) : (Segment.enc x)[2]? = some (.l 1 (x.next.map ei64)) := rfl
theorem Segment.enc_all (x : Segment) : (Segment.enc x).take 3 = Segment.enc x := rfl
theorem Segment.encC_all (x : Segment) : ((Segment.enc x).map C.d).take 3 = (Segment.enc x).map C.d := rfl
structure Group where
  id : Int
  segment : Int
  offset : Int
  acc : Int
  slack : Int
def Group.enc (x : Group) : List D := [.i .i64 x.id, .i .i64 x.segment, .i .i64 x.offset, .i .i64 x.acc, .i .i64 x.slack]
theorem Group.enc_len (x : Group) : (Group.enc x).length = 5 := rfl
theorem Group.enc_0 (x : Group) : (Group.enc x)[0]? = some (.i .i64 x.id) := rfl
theorem Group.enc_1 (x : Group) : (Group.enc x)[1]? = some (.i .i64 x.segment) := rfl
theorem Group.enc_2 (x : Group) : (Group.enc x)[2]? = some (.i .i64 x.offset) := rfl
theorem Group.enc_3 (x : Group) : (Group.enc x)[3]? = some (.i .i64 x.acc) := rfl
theorem Group.enc_4 (x : Group) : (Group.enc x)[4]? = some (.i .i64 x.slack) := rfl
theorem Group.enc_all (x : Group) : (Group.enc x).take 5 = Group.enc x := rfl
theorem Group.encC_all (x : Group) : ((Group.enc x).map C.d).take 5 = (Group.enc x).map C.d := rfl
structure Track where
  segments : List Segment
  groups : List Group
def Track.enc (x : Track) : List D := [.l 3 (x.segments.map Segment.enc), .l 5 (x.groups.map Group.enc)]
theorem Track.enc_len (x : Track) : (Track.enc x).length = 2 := rfl
theorem Track.enc_0 (x : Track) : (Track.enc x)[0]? = some (.l 3 (x.segments.map Segment.enc)) := rfl
theorem Track.enc_1 (x : Track) : (Track.enc x)[1]? = some (.l 5 (x.groups.map Group.enc)) := rfl
theorem Track.enc_all (x : Track) : (Track.enc x).take 2 = Track.enc x := rfl
theorem Track.encC_all (x : Track) : ((Track.enc x).map C.d).take 2 = (Track.enc x).map C.d := rfl
structure Tick where
  v : Int
  slip : Nat → Int
  rad : Int
  acc : Int
  lost : Nat → Bool
  junk : List (List Int)
  command : Bool
def Tick.enc (x : Tick) : List D := [.i .i64 x.v, .i .i64 (x.slip 0), .i .i64 (x.slip 1), .i .i64 x.rad, .i .i64 x.acc, .b (x.lost 0), .b (x.lost 1), .b (x.lost 2), .b (x.lost 3), .l 1 (x.junk.map (eL 1 eu8)), .b x.command]
theorem Tick.enc_len (x : Tick) : (Tick.enc x).length = 11 := rfl
theorem Tick.enc_0 (x : Tick) : (Tick.enc x)[0]? = some (.i .i64 x.v) := rfl
theorem Tick.enc_1 (x : Tick) : (Tick.enc x)[1]? = some (.i .i64 (x.slip 0)) := rfl
theorem Tick.enc_2 (x : Tick) : (Tick.enc x)[2]? = some (.i .i64 (x.slip 1)) := rfl
theorem Tick.enc_3 (x : Tick) : (Tick.enc x)[3]? = some (.i .i64 x.rad) := rfl
theorem Tick.enc_4 (x : Tick) : (Tick.enc x)[4]? = some (.i .i64 x.acc) := rfl
theorem Tick.enc_5 (x : Tick) : (Tick.enc x)[5]? = some (.b (x.lost 0)) := rfl
theorem Tick.enc_6 (x : Tick) : (Tick.enc x)[6]? = some (.b (x.lost 1)) := rfl
theorem Tick.enc_7 (x : Tick) : (Tick.enc x)[7]? = some (.b (x.lost 2)) := rfl
theorem Tick.enc_8 (x : Tick) : (Tick.enc x)[8]? = some (.b (x.lost 3)) := rfl
theorem Tick.enc_9 (x : Tick) : (Tick.enc x)[9]? = some (.l 1 (x.junk.map (eL 1 eu8))) := rfl
theorem Tick.enc_10 (x : Tick) : (Tick.enc x)[10]? = some (.b x.command) := rfl
theorem Tick.enc_all (x : Tick) : (Tick.enc x).take 11 = Tick.enc x := rfl
theorem Tick.encC_all (x : Tick) : ((Tick.enc x).map C.d).take 11 = (Tick.enc x).map C.d := rfl
theorem Tick.sub_1_2 (x : Tick) : ((Tick.enc x).drop 1).take 2 = [.i .i64 (x.slip 0), .i .i64 (x.slip 1)] := rfl
theorem Tick.subC_1_2 (x : Tick) : (((Tick.enc x).map C.d).drop 1).take 2 = [.i .i64 (x.slip 0), .i .i64 (x.slip 1)].map C.d := rfl
theorem Tick.sub_5_4 (x : Tick) : ((Tick.enc x).drop 5).take 4 = [.b (x.lost 0), .b (x.lost 1), .b (x.lost 2), .b (x.lost 3)] := rfl
theorem Tick.subC_5_4 (x : Tick) : (((Tick.enc x).map C.d).drop 5).take 4 = [.b (x.lost 0), .b (x.lost 1), .b (x.lost 2), .b (x.lost 3)].map C.d := rfl
structure Read where
  cycle : Int
  index : Int
  group : Int
  point : Int
def Read.enc (x : Read) : List D := [.i .i64 x.cycle, .i .i64 x.index, .i .i64 x.group, .i .i64 x.point]
theorem Read.enc_len (x : Read) : (Read.enc x).length = 4 := rfl
theorem Read.enc_0 (x : Read) : (Read.enc x)[0]? = some (.i .i64 x.cycle) := rfl
theorem Read.enc_1 (x : Read) : (Read.enc x)[1]? = some (.i .i64 x.index) := rfl
theorem Read.enc_2 (x : Read) : (Read.enc x)[2]? = some (.i .i64 x.group) := rfl
theorem Read.enc_3 (x : Read) : (Read.enc x)[3]? = some (.i .i64 x.point) := rfl
theorem Read.enc_all (x : Read) : (Read.enc x).take 4 = Read.enc x := rfl
theorem Read.encC_all (x : Read) : ((Read.enc x).map C.d).take 4 = (Read.enc x).map C.d := rfl
structure Script where
  route : List Int
  start : Int
  v0 : Int
  circ : Nat → Int
  phase : Nat → Int
  ticks : List Tick
  reads : List Read
def Script.enc (x : Script) : List D := [.l 1 (x.route.map ei64), .i .i64 x.start, .i .i64 x.v0, .i .i64 (x.circ 0), .i .i64 (x.circ 1), .i .i64 (x.phase 0), .i .i64 (x.phase 1), .l 11 (x.ticks.map Tick.enc), .l 4 (x.reads.map Read.enc)]
theorem Script.enc_len (x : Script) : (Script.enc x).length = 9 := rfl
theorem Script.enc_0 (x : Script) : (Script.enc x)[0]? = some (.l 1 (x.route.map ei64)) := rfl
theorem Script.enc_1 (x : Script) : (Script.enc x)[1]? = some (.i .i64 x.start) := rfl
theorem Script.enc_2 (x : Script) : (Script.enc x)[2]? = some (.i .i64 x.v0) := rfl
theorem Script.enc_3 (x : Script) : (Script.enc x)[3]? = some (.i .i64 (x.circ 0)) := rfl
theorem Script.enc_4 (x : Script) : (Script.enc x)[4]? = some (.i .i64 (x.circ 1)) := rfl
theorem Script.enc_5 (x : Script) : (Script.enc x)[5]? = some (.i .i64 (x.phase 0)) := rfl
theorem Script.enc_6 (x : Script) : (Script.enc x)[6]? = some (.i .i64 (x.phase 1)) := rfl
theorem Script.enc_7 (x : Script) : (Script.enc x)[7]? = some (.l 11 (x.ticks.map Tick.enc)) := rfl
theorem Script.enc_8 (x : Script) : (Script.enc x)[8]? = some (.l 4 (x.reads.map Read.enc)) := rfl
theorem Script.enc_all (x : Script) : (Script.enc x).take 9 = Script.enc x := rfl
theorem Script.encC_all (x : Script) : ((Script.enc x).map C.d).take 9 = (Script.enc x).map C.d := rfl
theorem Script.sub_3_2 (x : Script) : ((Script.enc x).drop 3).take 2 = [.i .i64 (x.circ 0), .i .i64 (x.circ 1)] := rfl
theorem Script.subC_3_2 (x : Script) : (((Script.enc x).map C.d).drop 3).take 2 = [.i .i64 (x.circ 0), .i .i64 (x.circ 1)].map C.d := rfl
theorem Script.sub_5_2 (x : Script) : ((Script.enc x).drop 5).take 2 = [.i .i64 (x.phase 0), .i .i64 (x.phase 1)] := rfl
theorem Script.subC_5_2 (x : Script) : (((Script.enc x).map C.d).drop 5).take 2 = [.i .i64 (x.phase 0), .i .i64 (x.phase 1)].map C.d := rfl
structure RTick where
  v : Int
  slip : Nat → Int
  rad : Int
  acc : Int
  lost : Nat → Int
  junk : List (List Int)
  command : Int
def RTick.enc (x : RTick) : List D := [.i .i64 x.v, .i .i64 (x.slip 0), .i .i64 (x.slip 1), .i .i64 x.rad, .i .i64 x.acc, .i .i64 (x.lost 0), .i .i64 (x.lost 1), .i .i64 (x.lost 2), .i .i64 (x.lost 3), .l 1 (x.junk.map (eL 1 eu8)), .i .i64 x.command]
theorem RTick.enc_len (x : RTick) : (RTick.enc x).length = 11 := rfl
theorem RTick.enc_0 (x : RTick) : (RTick.enc x)[0]? = some (.i .i64 x.v) := rfl
theorem RTick.enc_1 (x : RTick) : (RTick.enc x)[1]? = some (.i .i64 (x.slip 0)) := rfl
theorem RTick.enc_2 (x : RTick) : (RTick.enc x)[2]? = some (.i .i64 (x.slip 1)) := rfl
theorem RTick.enc_3 (x : RTick) : (RTick.enc x)[3]? = some (.i .i64 x.rad) := rfl
theorem RTick.enc_4 (x : RTick) : (RTick.enc x)[4]? = some (.i .i64 x.acc) := rfl
theorem RTick.enc_5 (x : RTick) : (RTick.enc x)[5]? = some (.i .i64 (x.lost 0)) := rfl
theorem RTick.enc_6 (x : RTick) : (RTick.enc x)[6]? = some (.i .i64 (x.lost 1)) := rfl
theorem RTick.enc_7 (x : RTick) : (RTick.enc x)[7]? = some (.i .i64 (x.lost 2)) := rfl
theorem RTick.enc_8 (x : RTick) : (RTick.enc x)[8]? = some (.i .i64 (x.lost 3)) := rfl
theorem RTick.enc_9 (x : RTick) : (RTick.enc x)[9]? = some (.l 1 (x.junk.map (eL 1 eu8))) := rfl
theorem RTick.enc_10 (x : RTick) : (RTick.enc x)[10]? = some (.i .i64 x.command) := rfl
theorem RTick.enc_all (x : RTick) : (RTick.enc x).take 11 = RTick.enc x := rfl
theorem RTick.encC_all (x : RTick) : ((RTick.enc x).map C.d).take 11 = (RTick.enc x).map C.d := rfl
theorem RTick.sub_1_2 (x : RTick) : ((RTick.enc x).drop 1).take 2 = [.i .i64 (x.slip 0), .i .i64 (x.slip 1)] := rfl
theorem RTick.subC_1_2 (x : RTick) : (((RTick.enc x).map C.d).drop 1).take 2 = [.i .i64 (x.slip 0), .i .i64 (x.slip 1)].map C.d := rfl
theorem RTick.sub_5_4 (x : RTick) : ((RTick.enc x).drop 5).take 4 = [.i .i64 (x.lost 0), .i .i64 (x.lost 1), .i .i64 (x.lost 2), .i .i64 (x.lost 3)] := rfl
theorem RTick.subC_5_4 (x : RTick) : (((RTick.enc x).map C.d).drop 5).take 4 = [.i .i64 (x.lost 0), .i .i64 (x.lost 1), .i .i64 (x.lost 2), .i .i64 (x.lost 3)].map C.d := rfl
structure RScript where
  route : List Int
  start : Int
  v0 : Int
  circ : Nat → Int
  phase : Nat → Int
  ticks : List RTick
  reads : List Read
def RScript.enc (x : RScript) : List D := [.l 1 (x.route.map ei64), .i .i64 x.start, .i .i64 x.v0, .i .i64 (x.circ 0), .i .i64 (x.circ 1), .i .i64 (x.phase 0), .i .i64 (x.phase 1), .l 11 (x.ticks.map RTick.enc), .l 4 (x.reads.map Read.enc)]
theorem RScript.enc_len (x : RScript) : (RScript.enc x).length = 9 := rfl
theorem RScript.enc_0 (x : RScript) : (RScript.enc x)[0]? = some (.l 1 (x.route.map ei64)) := rfl
theorem RScript.enc_1 (x : RScript) : (RScript.enc x)[1]? = some (.i .i64 x.start) := rfl
theorem RScript.enc_2 (x : RScript) : (RScript.enc x)[2]? = some (.i .i64 x.v0) := rfl
theorem RScript.enc_3 (x : RScript) : (RScript.enc x)[3]? = some (.i .i64 (x.circ 0)) := rfl
theorem RScript.enc_4 (x : RScript) : (RScript.enc x)[4]? = some (.i .i64 (x.circ 1)) := rfl
theorem RScript.enc_5 (x : RScript) : (RScript.enc x)[5]? = some (.i .i64 (x.phase 0)) := rfl
theorem RScript.enc_6 (x : RScript) : (RScript.enc x)[6]? = some (.i .i64 (x.phase 1)) := rfl
theorem RScript.enc_7 (x : RScript) : (RScript.enc x)[7]? = some (.l 11 (x.ticks.map RTick.enc)) := rfl
theorem RScript.enc_8 (x : RScript) : (RScript.enc x)[8]? = some (.l 4 (x.reads.map Read.enc)) := rfl
theorem RScript.enc_all (x : RScript) : (RScript.enc x).take 9 = RScript.enc x := rfl
theorem RScript.encC_all (x : RScript) : ((RScript.enc x).map C.d).take 9 = (RScript.enc x).map C.d := rfl
theorem RScript.sub_3_2 (x : RScript) : ((RScript.enc x).drop 3).take 2 = [.i .i64 (x.circ 0), .i .i64 (x.circ 1)] := rfl
theorem RScript.subC_3_2 (x : RScript) : (((RScript.enc x).map C.d).drop 3).take 2 = [.i .i64 (x.circ 0), .i .i64 (x.circ 1)].map C.d := rfl
theorem RScript.sub_5_2 (x : RScript) : ((RScript.enc x).drop 5).take 2 = [.i .i64 (x.phase 0), .i .i64 (x.phase 1)] := rfl
theorem RScript.subC_5_2 (x : RScript) : (((RScript.enc x).map C.d).drop 5).take 2 = [.i .i64 (x.phase 0), .i .i64 (x.phase 1)].map C.d := rfl
structure Span where
  lo : Int
  hi : Int
def Span.enc (x : Span) : List D := [.i .i64 x.lo, .i .i64 x.hi]
theorem Span.enc_len (x : Span) : (Span.enc x).length = 2 := rfl
theorem Span.enc_0 (x : Span) : (Span.enc x)[0]? = some (.i .i64 x.lo) := rfl
theorem Span.enc_1 (x : Span) : (Span.enc x)[1]? = some (.i .i64 x.hi) := rfl
theorem Span.enc_all (x : Span) : (Span.enc x).take 2 = Span.enc x := rfl
theorem Span.encC_all (x : Span) : ((Span.enc x).map C.d).take 2 = (Span.enc x).map C.d := rfl
structure Report where
  cycle : Int
  mode : Int
  group : Int
  pos : Span
  est : Int
  speed : Span
  nominal : Int
  dist : Int
  routes : List (List Int)
  fit : Int
  clean : Bool
  conflict : Bool
  slip : Nat → Int
  accepted : Bool
  fault : Bool
  still : Bool
  roll : Bool
  over : Bool
  moved : Span
  permitted : Int
  circ : Nat → Span
  bad : Int
  stale : Int
  twice : Int
  beyond : Int
def Report.enc (x : Report) : List D := [.i .i64 x.cycle, .i .i64 x.mode, .i .i64 x.group, .i .i64 x.pos.lo, .i .i64 x.pos.hi, .i .i64 x.est, .i .i64 x.speed.lo, .i .i64 x.speed.hi, .i .i64 x.nominal, .i .i64 x.dist, .l 1 (x.routes.map (eL 1 ei64)), .i .i64 x.fit, .b x.clean, .b x.conflict, .i .i64 (x.slip 0), .i .i64 (x.slip 1), .b x.accepted, .b x.fault, .b x.still, .b x.roll, .b x.over, .i .i64 x.moved.lo, .i .i64 x.moved.hi, .i .i64 x.permitted, .i .i64 (x.circ 0).lo, .i .i64 (x.circ 0).hi, .i .i64 (x.circ 1).lo, .i .i64 (x.circ 1).hi, .i .i64 x.bad, .i .i64 x.stale, .i .i64 x.twice, .i .i64 x.beyond]
theorem Report.enc_len (x : Report) : (Report.enc x).length = 32 := rfl
theorem Report.enc_0 (x : Report) : (Report.enc x)[0]? = some (.i .i64 x.cycle) := rfl
theorem Report.enc_1 (x : Report) : (Report.enc x)[1]? = some (.i .i64 x.mode) := rfl
theorem Report.enc_2 (x : Report) : (Report.enc x)[2]? = some (.i .i64 x.group) := rfl
theorem Report.enc_3 (x : Report) : (Report.enc x)[3]? = some (.i .i64 x.pos.lo) := rfl
theorem Report.enc_4 (x : Report) : (Report.enc x)[4]? = some (.i .i64 x.pos.hi) := rfl
theorem Report.enc_5 (x : Report) : (Report.enc x)[5]? = some (.i .i64 x.est) := rfl
theorem Report.enc_6 (x : Report) : (Report.enc x)[6]? = some (.i .i64 x.speed.lo) := rfl
theorem Report.enc_7 (x : Report) : (Report.enc x)[7]? = some (.i .i64 x.speed.hi) := rfl
theorem Report.enc_8 (x : Report) : (Report.enc x)[8]? = some (.i .i64 x.nominal) := rfl
theorem Report.enc_9 (x : Report) : (Report.enc x)[9]? = some (.i .i64 x.dist) := rfl
theorem Report.enc_10 (x : Report) : (Report.enc x)[10]? = some (.l 1 (x.routes.map (eL 1 ei64))) := rfl
theorem Report.enc_11 (x : Report) : (Report.enc x)[11]? = some (.i .i64 x.fit) := rfl
theorem Report.enc_12 (x : Report) : (Report.enc x)[12]? = some (.b x.clean) := rfl
theorem Report.enc_13 (x : Report) : (Report.enc x)[13]? = some (.b x.conflict) := rfl
theorem Report.enc_all (x : Report) : (Report.enc x).take 32 = Report.enc x := rfl
theorem Report.encC_all (x : Report) : ((Report.enc x).map C.d).take 32 = (Report.enc x).map C.d := rfl
theorem Report.sub_3_2 (x : Report) : ((Report.enc x).drop 3).take 2 = Span.enc x.pos := rfl
theorem Report.subC_3_2 (x : Report) : (((Report.enc x).map C.d).drop 3).take 2 = (Span.enc x.pos).map C.d := rfl
structure Change where
  cycle : Int
  kind : Int
  by_ : Int
def Change.enc (x : Change) : List D := [.i .i64 x.cycle, .i .i64 x.kind, .i .i64 x.by_]
theorem Change.enc_len (x : Change) : (Change.enc x).length = 3 := rfl
theorem Change.enc_0 (x : Change) : (Change.enc x)[0]? = some (.i .i64 x.cycle) := rfl
theorem Change.enc_1 (x : Change) : (Change.enc x)[1]? = some (.i .i64 x.kind) := rfl
theorem Change.enc_2 (x : Change) : (Change.enc x)[2]? = some (.i .i64 x.by_) := rfl
theorem Change.enc_all (x : Change) : (Change.enc x).take 3 = Change.enc x := rfl
theorem Change.encC_all (x : Change) : ((Change.enc x).map C.d).take 3 = (Change.enc x).map C.d := rfl
structure Breach where
  what : Int
  cycle : Int
def Breach.enc (x : Breach) : List D := [.i .i64 x.what, .i .i64 x.cycle]
theorem Breach.enc_len (x : Breach) : (Breach.enc x).length = 2 := rfl
theorem Breach.enc_0 (x : Breach) : (Breach.enc x)[0]? = some (.i .i64 x.what) := rfl
theorem Breach.enc_1 (x : Breach) : (Breach.enc x)[1]? = some (.i .i64 x.cycle) := rfl
theorem Breach.enc_all (x : Breach) : (Breach.enc x).take 2 = Breach.enc x := rfl
theorem Breach.encC_all (x : Breach) : ((Breach.enc x).map C.d).take 2 = (Breach.enc x).map C.d := rfl
structure RRep where
  cycle : Int
  group : Int
  fit : Int
  accepted : Int
  still : Int
  pos : Nat → Int
  speed : Nat → Int
  routes : List (List Int)
  circ : Nat → (Nat → Int)
def RRep.enc (x : RRep) : List D := [.i .i64 x.cycle, .i .i64 x.group, .i .i64 x.fit, .i .i64 x.accepted, .i .i64 x.still, .i .i64 (x.pos 0), .i .i64 (x.pos 1), .i .i64 (x.speed 0), .i .i64 (x.speed 1), .l 1 (x.routes.map (eL 1 ei64)), .i .i64 ((x.circ 0) 0), .i .i64 ((x.circ 0) 1), .i .i64 ((x.circ 1) 0), .i .i64 ((x.circ 1) 1)]
theorem RRep.enc_len (x : RRep) : (RRep.enc x).length = 14 := rfl
theorem RRep.enc_0 (x : RRep) : (RRep.enc x)[0]? = some (.i .i64 x.cycle) := rfl
theorem RRep.enc_1 (x : RRep) : (RRep.enc x)[1]? = some (.i .i64 x.group) := rfl
theorem RRep.enc_2 (x : RRep) : (RRep.enc x)[2]? = some (.i .i64 x.fit) := rfl
theorem RRep.enc_3 (x : RRep) : (RRep.enc x)[3]? = some (.i .i64 x.accepted) := rfl
theorem RRep.enc_4 (x : RRep) : (RRep.enc x)[4]? = some (.i .i64 x.still) := rfl
theorem RRep.enc_5 (x : RRep) : (RRep.enc x)[5]? = some (.i .i64 (x.pos 0)) := rfl
theorem RRep.enc_6 (x : RRep) : (RRep.enc x)[6]? = some (.i .i64 (x.pos 1)) := rfl
theorem RRep.enc_7 (x : RRep) : (RRep.enc x)[7]? = some (.i .i64 (x.speed 0)) := rfl
theorem RRep.enc_8 (x : RRep) : (RRep.enc x)[8]? = some (.i .i64 (x.speed 1)) := rfl
theorem RRep.enc_9 (x : RRep) : (RRep.enc x)[9]? = some (.l 1 (x.routes.map (eL 1 ei64))) := rfl
theorem RRep.enc_10 (x : RRep) : (RRep.enc x)[10]? = some (.i .i64 ((x.circ 0) 0)) := rfl
theorem RRep.enc_11 (x : RRep) : (RRep.enc x)[11]? = some (.i .i64 ((x.circ 0) 1)) := rfl
theorem RRep.enc_12 (x : RRep) : (RRep.enc x)[12]? = some (.i .i64 ((x.circ 1) 0)) := rfl
theorem RRep.enc_13 (x : RRep) : (RRep.enc x)[13]? = some (.i .i64 ((x.circ 1) 1)) := rfl
theorem RRep.enc_all (x : RRep) : (RRep.enc x).take 14 = RRep.enc x := rfl
theorem RRep.encC_all (x : RRep) : ((RRep.enc x).map C.d).take 14 = (RRep.enc x).map C.d := rfl
theorem RRep.sub_5_2 (x : RRep) : ((RRep.enc x).drop 5).take 2 = [.i .i64 (x.pos 0), .i .i64 (x.pos 1)] := rfl
theorem RRep.subC_5_2 (x : RRep) : (((RRep.enc x).map C.d).drop 5).take 2 = [.i .i64 (x.pos 0), .i .i64 (x.pos 1)].map C.d := rfl
structure RSpot where
  from_ : Int
  list_ : List (List Int)
def RSpot.enc (x : RSpot) : List D := [.i .i64 x.from_, .l 1 (x.list_.map (eL 1 ei64))]
theorem RSpot.enc_len (x : RSpot) : (RSpot.enc x).length = 2 := rfl
theorem RSpot.enc_0 (x : RSpot) : (RSpot.enc x)[0]? = some (.i .i64 x.from_) := rfl
theorem RSpot.enc_1 (x : RSpot) : (RSpot.enc x)[1]? = some (.l 1 (x.list_.map (eL 1 ei64))) := rfl
theorem RSpot.enc_all (x : RSpot) : (RSpot.enc x).take 2 = RSpot.enc x := rfl
theorem RSpot.encC_all (x : RSpot) : ((RSpot.enc x).map C.d).take 2 = (RSpot.enc x).map C.d := rfl
structure AJudge where
  c : Config
  t : Track
  s : Script
  places : List Int
  counts : Nat → (List Int)
def AJudge.enc (x : AJudge) : List D := [.i .i64 x.c.pulses, .i .i64 x.c.circLo, .i .i64 x.c.circHi, .i .i64 x.c.radBase, .i .i64 x.c.radPart, .i .i64 x.c.accErr, .i .i64 x.c.maxSpeed, .i .i64 x.c.maxAccel, .i .i64 x.c.antenna, .i .i64 x.c.still, .i .i64 x.c.stillSpeed, .i .i64 x.c.roll, .i .i64 x.c.timeout, .i .i64 x.c.brake, .l 3 (x.t.segments.map Segment.enc), .l 5 (x.t.groups.map Group.enc), .l 1 (x.s.route.map ei64), .i .i64 x.s.start, .i .i64 x.s.v0, .i .i64 (x.s.circ 0), .i .i64 (x.s.circ 1), .i .i64 (x.s.phase 0), .i .i64 (x.s.phase 1), .l 11 (x.s.ticks.map Tick.enc), .l 4 (x.s.reads.map Read.enc), .l 1 (x.places.map ei64), .l 1 ((x.counts 0).map ei64), .l 1 ((x.counts 1).map ei64)]
theorem AJudge.enc_len (x : AJudge) : (AJudge.enc x).length = 28 := rfl
theorem AJudge.enc_0 (x : AJudge) : (AJudge.enc x)[0]? = some (.i .i64 x.c.pulses) := rfl
theorem AJudge.enc_1 (x : AJudge) : (AJudge.enc x)[1]? = some (.i .i64 x.c.circLo) := rfl
theorem AJudge.enc_2 (x : AJudge) : (AJudge.enc x)[2]? = some (.i .i64 x.c.circHi) := rfl
theorem AJudge.enc_3 (x : AJudge) : (AJudge.enc x)[3]? = some (.i .i64 x.c.radBase) := rfl
theorem AJudge.enc_4 (x : AJudge) : (AJudge.enc x)[4]? = some (.i .i64 x.c.radPart) := rfl
theorem AJudge.enc_5 (x : AJudge) : (AJudge.enc x)[5]? = some (.i .i64 x.c.accErr) := rfl
theorem AJudge.enc_6 (x : AJudge) : (AJudge.enc x)[6]? = some (.i .i64 x.c.maxSpeed) := rfl
theorem AJudge.enc_7 (x : AJudge) : (AJudge.enc x)[7]? = some (.i .i64 x.c.maxAccel) := rfl
theorem AJudge.enc_8 (x : AJudge) : (AJudge.enc x)[8]? = some (.i .i64 x.c.antenna) := rfl
theorem AJudge.enc_9 (x : AJudge) : (AJudge.enc x)[9]? = some (.i .i64 x.c.still) := rfl
theorem AJudge.enc_10 (x : AJudge) : (AJudge.enc x)[10]? = some (.i .i64 x.c.stillSpeed) := rfl
theorem AJudge.enc_11 (x : AJudge) : (AJudge.enc x)[11]? = some (.i .i64 x.c.roll) := rfl
theorem AJudge.enc_12 (x : AJudge) : (AJudge.enc x)[12]? = some (.i .i64 x.c.timeout) := rfl
theorem AJudge.enc_13 (x : AJudge) : (AJudge.enc x)[13]? = some (.i .i64 x.c.brake) := rfl
theorem AJudge.enc_all (x : AJudge) : (AJudge.enc x).take 28 = AJudge.enc x := rfl
theorem AJudge.encC_all (x : AJudge) : ((AJudge.enc x).map C.d).take 28 = (AJudge.enc x).map C.d := rfl
structure Cyc where
  list_ : List (List Int)
  command : Bool
def Cyc.enc (x : Cyc) : List D := [.l 1 (x.list_.map (eL 1 eu8)), .b x.command]
theorem Cyc.enc_len (x : Cyc) : (Cyc.enc x).length = 2 := rfl
theorem Cyc.enc_0 (x : Cyc) : (Cyc.enc x)[0]? = some (.l 1 (x.list_.map (eL 1 eu8))) := rfl
theorem Cyc.enc_1 (x : Cyc) : (Cyc.enc x)[1]? = some (.b x.command) := rfl
theorem Cyc.enc_all (x : Cyc) : (Cyc.enc x).take 2 = Cyc.enc x := rfl
theorem Cyc.encC_all (x : Cyc) : ((Cyc.enc x).map C.d).take 2 = (Cyc.enc x).map C.d := rfl
structure Sense where
  counts : Nat → Int
  speed : Int
  accel : Int
  group : Int
  has : Nat → Bool
  command : Bool
def Sense.enc (x : Sense) : List D := [.i .u16 (x.counts 0), .i .u16 (x.counts 1), .i .i32 x.speed, .i .i32 x.accel, .i .u16 x.group, .b (x.has 0), .b (x.has 1), .b (x.has 2), .b (x.has 3), .b (x.has 4), .b x.command]
theorem Sense.enc_len (x : Sense) : (Sense.enc x).length = 11 := rfl
theorem Sense.enc_0 (x : Sense) : (Sense.enc x)[0]? = some (.i .u16 (x.counts 0)) := rfl
theorem Sense.enc_1 (x : Sense) : (Sense.enc x)[1]? = some (.i .u16 (x.counts 1)) := rfl
theorem Sense.enc_2 (x : Sense) : (Sense.enc x)[2]? = some (.i .i32 x.speed) := rfl
theorem Sense.enc_3 (x : Sense) : (Sense.enc x)[3]? = some (.i .i32 x.accel) := rfl
theorem Sense.enc_4 (x : Sense) : (Sense.enc x)[4]? = some (.i .u16 x.group) := rfl
theorem Sense.enc_5 (x : Sense) : (Sense.enc x)[5]? = some (.b (x.has 0)) := rfl
theorem Sense.enc_6 (x : Sense) : (Sense.enc x)[6]? = some (.b (x.has 1)) := rfl
theorem Sense.enc_7 (x : Sense) : (Sense.enc x)[7]? = some (.b (x.has 2)) := rfl
theorem Sense.enc_8 (x : Sense) : (Sense.enc x)[8]? = some (.b (x.has 3)) := rfl
theorem Sense.enc_9 (x : Sense) : (Sense.enc x)[9]? = some (.b (x.has 4)) := rfl
theorem Sense.enc_10 (x : Sense) : (Sense.enc x)[10]? = some (.b x.command) := rfl
theorem Sense.enc_all (x : Sense) : (Sense.enc x).take 11 = Sense.enc x := rfl
theorem Sense.encC_all (x : Sense) : ((Sense.enc x).map C.d).take 11 = (Sense.enc x).map C.d := rfl
structure Counter where
  known : Bool
  last : Int
  sum : Int
def Counter.enc (x : Counter) : List D := [.b x.known, .i .u16 x.last, .i .i64 x.sum]
theorem Counter.enc_len (x : Counter) : (Counter.enc x).length = 3 := rfl
theorem Counter.enc_0 (x : Counter) : (Counter.enc x)[0]? = some (.b x.known) := rfl
theorem Counter.enc_1 (x : Counter) : (Counter.enc x)[1]? = some (.i .u16 x.last) := rfl
theorem Counter.enc_2 (x : Counter) : (Counter.enc x)[2]? = some (.i .i64 x.sum) := rfl
theorem Counter.enc_all (x : Counter) : (Counter.enc x).take 3 = Counter.enc x := rfl
theorem Counter.encC_all (x : Counter) : ((Counter.enc x).map C.d).take 3 = (Counter.enc x).map C.d := rfl
structure Route where
  n : Int
  seg : Nat → Int
def Route.enc (x : Route) : List D := [.i .i64 x.n, .i .i64 (x.seg 0), .i .i64 (x.seg 1), .i .i64 (x.seg 2), .i .i64 (x.seg 3), .i .i64 (x.seg 4), .i .i64 (x.seg 5), .i .i64 (x.seg 6), .i .i64 (x.seg 7), .i .i64 (x.seg 8), .i .i64 (x.seg 9), .i .i64 (x.seg 10), .i .i64 (x.seg 11)]
theorem Route.enc_len (x : Route) : (Route.enc x).length = 13 := rfl
theorem Route.enc_0 (x : Route) : (Route.enc x)[0]? = some (.i .i64 x.n) := rfl
theorem Route.enc_1 (x : Route) : (Route.enc x)[1]? = some (.i .i64 (x.seg 0)) := rfl
theorem Route.enc_2 (x : Route) : (Route.enc x)[2]? = some (.i .i64 (x.seg 1)) := rfl
theorem Route.enc_3 (x : Route) : (Route.enc x)[3]? = some (.i .i64 (x.seg 2)) := rfl
theorem Route.enc_4 (x : Route) : (Route.enc x)[4]? = some (.i .i64 (x.seg 3)) := rfl
theorem Route.enc_5 (x : Route) : (Route.enc x)[5]? = some (.i .i64 (x.seg 4)) := rfl
theorem Route.enc_6 (x : Route) : (Route.enc x)[6]? = some (.i .i64 (x.seg 5)) := rfl
theorem Route.enc_7 (x : Route) : (Route.enc x)[7]? = some (.i .i64 (x.seg 6)) := rfl
theorem Route.enc_8 (x : Route) : (Route.enc x)[8]? = some (.i .i64 (x.seg 7)) := rfl
theorem Route.enc_9 (x : Route) : (Route.enc x)[9]? = some (.i .i64 (x.seg 8)) := rfl
theorem Route.enc_10 (x : Route) : (Route.enc x)[10]? = some (.i .i64 (x.seg 9)) := rfl
theorem Route.enc_11 (x : Route) : (Route.enc x)[11]? = some (.i .i64 (x.seg 10)) := rfl
theorem Route.enc_12 (x : Route) : (Route.enc x)[12]? = some (.i .i64 (x.seg 11)) := rfl
theorem Route.enc_all (x : Route) : (Route.enc x).take 13 = Route.enc x := rfl
theorem Route.encC_all (x : Route) : ((Route.enc x).map C.d).take 13 = (Route.enc x).map C.d := rfl
structure RSet where
  from_ : Int
  list_ : List Route
def RSet.enc (x : RSet) : List D := [.i .i64 x.from_, .l 13 (x.list_.map Route.enc)]
theorem RSet.enc_len (x : RSet) : (RSet.enc x).length = 2 := rfl
theorem RSet.enc_0 (x : RSet) : (RSet.enc x)[0]? = some (.i .i64 x.from_) := rfl
theorem RSet.enc_1 (x : RSet) : (RSet.enc x)[1]? = some (.l 13 (x.list_.map Route.enc)) := rfl
theorem RSet.enc_all (x : RSet) : (RSet.enc x).take 2 = RSet.enc x := rfl
theorem RSet.encC_all (x : RSet) : ((RSet.enc x).map C.d).take 2 = (RSet.enc x).map C.d := rfl
structure Place where
  on_ : Bool
  group : Int
  pos : Span
  est : Int
  set_ : RSet
def Place.enc (x : Place) : List D := [.b x.on_, .i .i64 x.group, .i .i64 x.pos.lo, .i .i64 x.pos.hi, .i .i64 x.est, .i .i64 x.set_.from_, .l 13 (x.set_.list_.map Route.enc)]
theorem Place.enc_len (x : Place) : (Place.enc x).length = 7 := rfl
theorem Place.enc_0 (x : Place) : (Place.enc x)[0]? = some (.b x.on_) := rfl
theorem Place.enc_1 (x : Place) : (Place.enc x)[1]? = some (.i .i64 x.group) := rfl
theorem Place.enc_2 (x : Place) : (Place.enc x)[2]? = some (.i .i64 x.pos.lo) := rfl
theorem Place.enc_3 (x : Place) : (Place.enc x)[3]? = some (.i .i64 x.pos.hi) := rfl
theorem Place.enc_4 (x : Place) : (Place.enc x)[4]? = some (.i .i64 x.est) := rfl
theorem Place.enc_5 (x : Place) : (Place.enc x)[5]? = some (.i .i64 x.set_.from_) := rfl
theorem Place.enc_6 (x : Place) : (Place.enc x)[6]? = some (.l 13 (x.set_.list_.map Route.enc)) := rfl
theorem Place.enc_all (x : Place) : (Place.enc x).take 7 = Place.enc x := rfl
theorem Place.encC_all (x : Place) : ((Place.enc x).map C.d).take 7 = (Place.enc x).map C.d := rfl
theorem Place.sub_5_2 (x : Place) : ((Place.enc x).drop 5).take 2 = RSet.enc x.set_ := rfl
theorem Place.subC_5_2 (x : Place) : (((Place.enc x).map C.d).drop 5).take 2 = (RSet.enc x.set_).map C.d := rfl
structure Stretch where
  clean : Bool
  origin : Span
  sums : Nat → Int
def Stretch.enc (x : Stretch) : List D := [.b x.clean, .i .i64 x.origin.lo, .i .i64 x.origin.hi, .i .i64 (x.sums 0), .i .i64 (x.sums 1)]
theorem Stretch.enc_len (x : Stretch) : (Stretch.enc x).length = 5 := rfl
theorem Stretch.enc_0 (x : Stretch) : (Stretch.enc x)[0]? = some (.b x.clean) := rfl
theorem Stretch.enc_1 (x : Stretch) : (Stretch.enc x)[1]? = some (.i .i64 x.origin.lo) := rfl
theorem Stretch.enc_2 (x : Stretch) : (Stretch.enc x)[2]? = some (.i .i64 x.origin.hi) := rfl
theorem Stretch.enc_3 (x : Stretch) : (Stretch.enc x)[3]? = some (.i .i64 (x.sums 0)) := rfl
theorem Stretch.enc_4 (x : Stretch) : (Stretch.enc x)[4]? = some (.i .i64 (x.sums 1)) := rfl
theorem Stretch.enc_all (x : Stretch) : (Stretch.enc x).take 5 = Stretch.enc x := rfl
theorem Stretch.encC_all (x : Stretch) : ((Stretch.enc x).map C.d).take 5 = (Stretch.enc x).map C.d := rfl
theorem Stretch.sub_1_2 (x : Stretch) : ((Stretch.enc x).drop 1).take 2 = Span.enc x.origin := rfl
theorem Stretch.subC_1_2 (x : Stretch) : (((Stretch.enc x).map C.d).drop 1).take 2 = (Span.enc x.origin).map C.d := rfl
theorem Stretch.sub_3_2 (x : Stretch) : ((Stretch.enc x).drop 3).take 2 = [.i .i64 (x.sums 0), .i .i64 (x.sums 1)] := rfl
theorem Stretch.subC_3_2 (x : Stretch) : (((Stretch.enc x).map C.d).drop 3).take 2 = [.i .i64 (x.sums 0), .i .i64 (x.sums 1)].map C.d := rfl
structure Still where
  count : Int
  on_ : Bool
def Still.enc (x : Still) : List D := [.i .i64 x.count, .b x.on_]
theorem Still.enc_len (x : Still) : (Still.enc x).length = 2 := rfl
theorem Still.enc_0 (x : Still) : (Still.enc x)[0]? = some (.i .i64 x.count) := rfl
theorem Still.enc_1 (x : Still) : (Still.enc x)[1]? = some (.b x.on_) := rfl
theorem Still.enc_all (x : Still) : (Still.enc x).take 2 = Still.enc x := rfl
theorem Still.encC_all (x : Still) : ((Still.enc x).map C.d).take 2 = (Still.enc x).map C.d := rfl
structure RollS where
  anchored : Bool
  on_ : Bool
  moved : Span
def RollS.enc (x : RollS) : List D := [.b x.anchored, .b x.on_, .i .i64 x.moved.lo, .i .i64 x.moved.hi]
theorem RollS.enc_len (x : RollS) : (RollS.enc x).length = 4 := rfl
theorem RollS.enc_0 (x : RollS) : (RollS.enc x)[0]? = some (.b x.anchored) := rfl
theorem RollS.enc_1 (x : RollS) : (RollS.enc x)[1]? = some (.b x.on_) := rfl
theorem RollS.enc_2 (x : RollS) : (RollS.enc x)[2]? = some (.i .i64 x.moved.lo) := rfl
theorem RollS.enc_3 (x : RollS) : (RollS.enc x)[3]? = some (.i .i64 x.moved.hi) := rfl
theorem RollS.enc_all (x : RollS) : (RollS.enc x).take 4 = RollS.enc x := rfl
theorem RollS.encC_all (x : RollS) : ((RollS.enc x).map C.d).take 4 = (RollS.enc x).map C.d := rfl
structure Watch where
  silent : Int
  strife : Int
  failed : Bool
def Watch.enc (x : Watch) : List D := [.i .i64 x.silent, .i .i64 x.strife, .b x.failed]
theorem Watch.enc_len (x : Watch) : (Watch.enc x).length = 3 := rfl
theorem Watch.enc_0 (x : Watch) : (Watch.enc x)[0]? = some (.i .i64 x.silent) := rfl
theorem Watch.enc_1 (x : Watch) : (Watch.enc x)[1]? = some (.i .i64 x.strife) := rfl
theorem Watch.enc_2 (x : Watch) : (Watch.enc x)[2]? = some (.b x.failed) := rfl
theorem Watch.enc_all (x : Watch) : (Watch.enc x).take 3 = Watch.enc x := rfl
theorem Watch.encC_all (x : Watch) : ((Watch.enc x).map C.d).take 3 = (Watch.enc x).map C.d := rfl
structure Nav where
  c : Config
  t : Track
  broken : Bool
  cycle : Int
  grades : Span
  ends : List Int
  counters : Nat → Counter
  circ : Nat → Span
  speed : Span
  dist : Int
  place : Place
  stretch : Stretch
  still : Still
  roll : RollS
  watch : Watch
def Nav.enc (x : Nav) : List D := [.i .i64 x.c.pulses, .i .i64 x.c.circLo, .i .i64 x.c.circHi, .i .i64 x.c.radBase, .i .i64 x.c.radPart, .i .i64 x.c.accErr, .i .i64 x.c.maxSpeed, .i .i64 x.c.maxAccel, .i .i64 x.c.antenna, .i .i64 x.c.still, .i .i64 x.c.stillSpeed, .i .i64 x.c.roll, .i .i64 x.c.timeout, .i .i64 x.c.brake, .l 3 (x.t.segments.map Segment.enc), .l 5 (x.t.groups.map Group.enc), .b x.broken, .i .i64 x.cycle, .i .i64 x.grades.lo, .i .i64 x.grades.hi, .l 1 (x.ends.map ei64), .b (x.counters 0).known, .i .u16 (x.counters 0).last, .i .i64 (x.counters 0).sum, .b (x.counters 1).known, .i .u16 (x.counters 1).last, .i .i64 (x.counters 1).sum, .i .i64 (x.circ 0).lo, .i .i64 (x.circ 0).hi, .i .i64 (x.circ 1).lo, .i .i64 (x.circ 1).hi, .i .i64 x.speed.lo, .i .i64 x.speed.hi, .i .i64 x.dist, .b x.place.on_, .i .i64 x.place.group, .i .i64 x.place.pos.lo, .i .i64 x.place.pos.hi, .i .i64 x.place.est, .i .i64 x.place.set_.from_, .l 13 (x.place.set_.list_.map Route.enc), .b x.stretch.clean, .i .i64 x.stretch.origin.lo, .i .i64 x.stretch.origin.hi, .i .i64 (x.stretch.sums 0), .i .i64 (x.stretch.sums 1), .i .i64 x.still.count, .b x.still.on_, .b x.roll.anchored, .b x.roll.on_, .i .i64 x.roll.moved.lo, .i .i64 x.roll.moved.hi, .i .i64 x.watch.silent, .i .i64 x.watch.strife, .b x.watch.failed]
theorem Nav.enc_len (x : Nav) : (Nav.enc x).length = 55 := rfl
theorem Nav.enc_0 (x : Nav) : (Nav.enc x)[0]? = some (.i .i64 x.c.pulses) := rfl
theorem Nav.enc_1 (x : Nav) : (Nav.enc x)[1]? = some (.i .i64 x.c.circLo) := rfl
theorem Nav.enc_2 (x : Nav) : (Nav.enc x)[2]? = some (.i .i64 x.c.circHi) := rfl
theorem Nav.enc_3 (x : Nav) : (Nav.enc x)[3]? = some (.i .i64 x.c.radBase) := rfl
theorem Nav.enc_4 (x : Nav) : (Nav.enc x)[4]? = some (.i .i64 x.c.radPart) := rfl
theorem Nav.enc_5 (x : Nav) : (Nav.enc x)[5]? = some (.i .i64 x.c.accErr) := rfl
theorem Nav.enc_6 (x : Nav) : (Nav.enc x)[6]? = some (.i .i64 x.c.maxSpeed) := rfl
theorem Nav.enc_7 (x : Nav) : (Nav.enc x)[7]? = some (.i .i64 x.c.maxAccel) := rfl
theorem Nav.enc_8 (x : Nav) : (Nav.enc x)[8]? = some (.i .i64 x.c.antenna) := rfl
theorem Nav.enc_9 (x : Nav) : (Nav.enc x)[9]? = some (.i .i64 x.c.still) := rfl
theorem Nav.enc_10 (x : Nav) : (Nav.enc x)[10]? = some (.i .i64 x.c.stillSpeed) := rfl
theorem Nav.enc_11 (x : Nav) : (Nav.enc x)[11]? = some (.i .i64 x.c.roll) := rfl
theorem Nav.enc_12 (x : Nav) : (Nav.enc x)[12]? = some (.i .i64 x.c.timeout) := rfl
theorem Nav.enc_13 (x : Nav) : (Nav.enc x)[13]? = some (.i .i64 x.c.brake) := rfl
theorem Nav.enc_all (x : Nav) : (Nav.enc x).take 55 = Nav.enc x := rfl
theorem Nav.encC_all (x : Nav) : ((Nav.enc x).map C.d).take 55 = (Nav.enc x).map C.d := rfl
structure Entry where
  command : Bool
  list_ : List (List Int)
def Entry.enc (x : Entry) : List D := [.b x.command, .l 1 (x.list_.map (eL 1 eu8))]
theorem Entry.enc_len (x : Entry) : (Entry.enc x).length = 2 := rfl
theorem Entry.enc_0 (x : Entry) : (Entry.enc x)[0]? = some (.b x.command) := rfl
theorem Entry.enc_1 (x : Entry) : (Entry.enc x)[1]? = some (.l 1 (x.list_.map (eL 1 eu8))) := rfl
theorem Entry.enc_all (x : Entry) : (Entry.enc x).take 2 = Entry.enc x := rfl
theorem Entry.encC_all (x : Entry) : ((Entry.enc x).map C.d).take 2 = (Entry.enc x).map C.d := rfl
structure JJudge where
  c : Config
  t : Track
  s : Script
  last : Read
  known : Bool
  calm : Int
def JJudge.enc (x : JJudge) : List D := [.i .i64 x.c.pulses, .i .i64 x.c.circLo, .i .i64 x.c.circHi, .i .i64 x.c.radBase, .i .i64 x.c.radPart, .i .i64 x.c.accErr, .i .i64 x.c.maxSpeed, .i .i64 x.c.maxAccel, .i .i64 x.c.antenna, .i .i64 x.c.still, .i .i64 x.c.stillSpeed, .i .i64 x.c.roll, .i .i64 x.c.timeout, .i .i64 x.c.brake, .l 3 (x.t.segments.map Segment.enc), .l 5 (x.t.groups.map Group.enc), .l 1 (x.s.route.map ei64), .i .i64 x.s.start, .i .i64 x.s.v0, .i .i64 (x.s.circ 0), .i .i64 (x.s.circ 1), .i .i64 (x.s.phase 0), .i .i64 (x.s.phase 1), .l 11 (x.s.ticks.map Tick.enc), .l 4 (x.s.reads.map Read.enc), .i .i64 x.last.cycle, .i .i64 x.last.index, .i .i64 x.last.group, .i .i64 x.last.point, .b x.known, .i .i64 x.calm]
theorem JJudge.enc_len (x : JJudge) : (JJudge.enc x).length = 31 := rfl
theorem JJudge.enc_0 (x : JJudge) : (JJudge.enc x)[0]? = some (.i .i64 x.c.pulses) := rfl
theorem JJudge.enc_1 (x : JJudge) : (JJudge.enc x)[1]? = some (.i .i64 x.c.circLo) := rfl
theorem JJudge.enc_2 (x : JJudge) : (JJudge.enc x)[2]? = some (.i .i64 x.c.circHi) := rfl
theorem JJudge.enc_3 (x : JJudge) : (JJudge.enc x)[3]? = some (.i .i64 x.c.radBase) := rfl
theorem JJudge.enc_4 (x : JJudge) : (JJudge.enc x)[4]? = some (.i .i64 x.c.radPart) := rfl
theorem JJudge.enc_5 (x : JJudge) : (JJudge.enc x)[5]? = some (.i .i64 x.c.accErr) := rfl
theorem JJudge.enc_6 (x : JJudge) : (JJudge.enc x)[6]? = some (.i .i64 x.c.maxSpeed) := rfl
theorem JJudge.enc_7 (x : JJudge) : (JJudge.enc x)[7]? = some (.i .i64 x.c.maxAccel) := rfl
theorem JJudge.enc_8 (x : JJudge) : (JJudge.enc x)[8]? = some (.i .i64 x.c.antenna) := rfl
theorem JJudge.enc_9 (x : JJudge) : (JJudge.enc x)[9]? = some (.i .i64 x.c.still) := rfl
theorem JJudge.enc_10 (x : JJudge) : (JJudge.enc x)[10]? = some (.i .i64 x.c.stillSpeed) := rfl
theorem JJudge.enc_11 (x : JJudge) : (JJudge.enc x)[11]? = some (.i .i64 x.c.roll) := rfl
theorem JJudge.enc_12 (x : JJudge) : (JJudge.enc x)[12]? = some (.i .i64 x.c.timeout) := rfl
theorem JJudge.enc_13 (x : JJudge) : (JJudge.enc x)[13]? = some (.i .i64 x.c.brake) := rfl
theorem JJudge.enc_all (x : JJudge) : (JJudge.enc x).take 31 = JJudge.enc x := rfl
theorem JJudge.encC_all (x : JJudge) : ((JJudge.enc x).map C.d).take 31 = (JJudge.enc x).map C.d := rfl
structure Frame where
  kind : Int
  seq : Int
  value : Int
def Frame.enc (x : Frame) : List D := [.i .i64 x.kind, .i .i64 x.seq, .i .i64 x.value]
theorem Frame.enc_len (x : Frame) : (Frame.enc x).length = 3 := rfl
theorem Frame.enc_0 (x : Frame) : (Frame.enc x)[0]? = some (.i .i64 x.kind) := rfl
theorem Frame.enc_1 (x : Frame) : (Frame.enc x)[1]? = some (.i .i64 x.seq) := rfl
theorem Frame.enc_2 (x : Frame) : (Frame.enc x)[2]? = some (.i .i64 x.value) := rfl
theorem Frame.enc_all (x : Frame) : (Frame.enc x).take 3 = Frame.enc x := rfl
theorem Frame.encC_all (x : Frame) : ((Frame.enc x).map C.d).take 3 = (Frame.enc x).map C.d := rfl
structure Sender where
  seq : Int
  list_ : List (List Int)
def Sender.enc (x : Sender) : List D := [.i .i64 x.seq, .l 1 (x.list_.map (eL 1 eu8))]
theorem Sender.enc_len (x : Sender) : (Sender.enc x).length = 2 := rfl
theorem Sender.enc_0 (x : Sender) : (Sender.enc x)[0]? = some (.i .i64 x.seq) := rfl
theorem Sender.enc_1 (x : Sender) : (Sender.enc x)[1]? = some (.l 1 (x.list_.map (eL 1 eu8))) := rfl
theorem Sender.enc_all (x : Sender) : (Sender.enc x).take 2 = Sender.enc x := rfl
theorem Sender.encC_all (x : Sender) : ((Sender.enc x).map C.d).take 2 = (Sender.enc x).map C.d := rfl
structure Mail where
  has : Nat → Bool
  value : Nat → Int
  bad : Int
  stale : Int
  twice : Int
  beyond : Int
def Mail.enc (x : Mail) : List D := [.b (x.has 0), .b (x.has 1), .b (x.has 2), .b (x.has 3), .b (x.has 4), .b (x.has 5), .i .i64 (x.value 0), .i .i64 (x.value 1), .i .i64 (x.value 2), .i .i64 (x.value 3), .i .i64 (x.value 4), .i .i64 (x.value 5), .i .i64 x.bad, .i .i64 x.stale, .i .i64 x.twice, .i .i64 x.beyond]
theorem Mail.enc_len (x : Mail) : (Mail.enc x).length = 16 := rfl
theorem Mail.enc_0 (x : Mail) : (Mail.enc x)[0]? = some (.b (x.has 0)) := rfl
theorem Mail.enc_1 (x : Mail) : (Mail.enc x)[1]? = some (.b (x.has 1)) := rfl
theorem Mail.enc_2 (x : Mail) : (Mail.enc x)[2]? = some (.b (x.has 2)) := rfl
theorem Mail.enc_3 (x : Mail) : (Mail.enc x)[3]? = some (.b (x.has 3)) := rfl
theorem Mail.enc_4 (x : Mail) : (Mail.enc x)[4]? = some (.b (x.has 4)) := rfl
theorem Mail.enc_5 (x : Mail) : (Mail.enc x)[5]? = some (.b (x.has 5)) := rfl
theorem Mail.enc_6 (x : Mail) : (Mail.enc x)[6]? = some (.i .i64 (x.value 0)) := rfl
theorem Mail.enc_7 (x : Mail) : (Mail.enc x)[7]? = some (.i .i64 (x.value 1)) := rfl
theorem Mail.enc_8 (x : Mail) : (Mail.enc x)[8]? = some (.i .i64 (x.value 2)) := rfl
theorem Mail.enc_9 (x : Mail) : (Mail.enc x)[9]? = some (.i .i64 (x.value 3)) := rfl
theorem Mail.enc_10 (x : Mail) : (Mail.enc x)[10]? = some (.i .i64 (x.value 4)) := rfl
theorem Mail.enc_11 (x : Mail) : (Mail.enc x)[11]? = some (.i .i64 (x.value 5)) := rfl
theorem Mail.enc_12 (x : Mail) : (Mail.enc x)[12]? = some (.i .i64 x.bad) := rfl
theorem Mail.enc_13 (x : Mail) : (Mail.enc x)[13]? = some (.i .i64 x.stale) := rfl
theorem Mail.enc_all (x : Mail) : (Mail.enc x).take 16 = Mail.enc x := rfl
theorem Mail.encC_all (x : Mail) : ((Mail.enc x).map C.d).take 16 = (Mail.enc x).map C.d := rfl
structure Fused where
  speed : Span
  fit : Int
  clean : Bool
  conflict : Bool
  slip : Nat → Int
def Fused.enc (x : Fused) : List D := [.i .i64 x.speed.lo, .i .i64 x.speed.hi, .i .i64 x.fit, .b x.clean, .b x.conflict, .i .i64 (x.slip 0), .i .i64 (x.slip 1)]
theorem Fused.enc_len (x : Fused) : (Fused.enc x).length = 7 := rfl
theorem Fused.enc_0 (x : Fused) : (Fused.enc x)[0]? = some (.i .i64 x.speed.lo) := rfl
theorem Fused.enc_1 (x : Fused) : (Fused.enc x)[1]? = some (.i .i64 x.speed.hi) := rfl
theorem Fused.enc_2 (x : Fused) : (Fused.enc x)[2]? = some (.i .i64 x.fit) := rfl
theorem Fused.enc_3 (x : Fused) : (Fused.enc x)[3]? = some (.b x.clean) := rfl
theorem Fused.enc_4 (x : Fused) : (Fused.enc x)[4]? = some (.b x.conflict) := rfl
theorem Fused.enc_5 (x : Fused) : (Fused.enc x)[5]? = some (.i .i64 (x.slip 0)) := rfl
theorem Fused.enc_6 (x : Fused) : (Fused.enc x)[6]? = some (.i .i64 (x.slip 1)) := rfl
theorem Fused.enc_all (x : Fused) : (Fused.enc x).take 7 = Fused.enc x := rfl
theorem Fused.encC_all (x : Fused) : ((Fused.enc x).map C.d).take 7 = (Fused.enc x).map C.d := rfl
theorem Fused.sub_5_2 (x : Fused) : ((Fused.enc x).drop 5).take 2 = [.i .i64 (x.slip 0), .i .i64 (x.slip 1)] := rfl
theorem Fused.subC_5_2 (x : Fused) : (((Fused.enc x).map C.d).drop 5).take 2 = [.i .i64 (x.slip 0), .i .i64 (x.slip 1)].map C.d := rfl
structure Found where
  group : Int
  at_ : List Int
  ok : Bool
  accepted : Bool
def Found.enc (x : Found) : List D := [.i .i64 x.group, .l 1 (x.at_.map ei64), .b x.ok, .b x.accepted]
theorem Found.enc_len (x : Found) : (Found.enc x).length = 4 := rfl
theorem Found.enc_0 (x : Found) : (Found.enc x)[0]? = some (.i .i64 x.group) := rfl
theorem Found.enc_1 (x : Found) : (Found.enc x)[1]? = some (.l 1 (x.at_.map ei64)) := rfl
theorem Found.enc_2 (x : Found) : (Found.enc x)[2]? = some (.b x.ok) := rfl
theorem Found.enc_3 (x : Found) : (Found.enc x)[3]? = some (.b x.accepted) := rfl
theorem Found.enc_all (x : Found) : (Found.enc x).take 4 = Found.enc x := rfl
theorem Found.encC_all (x : Found) : ((Found.enc x).map C.d).take 4 = (Found.enc x).map C.d := rfl
structure Reader where
  b : List Int
  short : Bool
def Reader.enc (x : Reader) : List D := [.l 1 (x.b.map eu8), .b x.short]
theorem Reader.enc_len (x : Reader) : (Reader.enc x).length = 2 := rfl
theorem Reader.enc_0 (x : Reader) : (Reader.enc x)[0]? = some (.l 1 (x.b.map eu8)) := rfl
theorem Reader.enc_1 (x : Reader) : (Reader.enc x)[1]? = some (.b x.short) := rfl
theorem Reader.enc_all (x : Reader) : (Reader.enc x).take 2 = Reader.enc x := rfl
theorem Reader.encC_all (x : Reader) : ((Reader.enc x).map C.d).take 2 = (Reader.enc x).map C.d := rfl
structure Sensor where
  fit : Bool
  span : Span
def Sensor.enc (x : Sensor) : List D := [.b x.fit, .i .i64 x.span.lo, .i .i64 x.span.hi]
theorem Sensor.enc_len (x : Sensor) : (Sensor.enc x).length = 3 := rfl
theorem Sensor.enc_0 (x : Sensor) : (Sensor.enc x)[0]? = some (.b x.fit) := rfl
theorem Sensor.enc_1 (x : Sensor) : (Sensor.enc x)[1]? = some (.i .i64 x.span.lo) := rfl
theorem Sensor.enc_2 (x : Sensor) : (Sensor.enc x)[2]? = some (.i .i64 x.span.hi) := rfl
theorem Sensor.enc_all (x : Sensor) : (Sensor.enc x).take 3 = Sensor.enc x := rfl
theorem Sensor.encC_all (x : Sensor) : ((Sensor.enc x).map C.d).take 3 = (Sensor.enc x).map C.d := rfl
theorem Sensor.sub_1_2 (x : Sensor) : ((Sensor.enc x).drop 1).take 2 = Span.enc x.span := rfl
theorem Sensor.subC_1_2 (x : Sensor) : (((Sensor.enc x).map C.d).drop 1).take 2 = (Span.enc x.span).map C.d := rfl
structure U128 where
  hi : Int
  lo : Int
def U128.enc (x : U128) : List D := [.i .u64 x.hi, .i .u64 x.lo]
theorem U128.enc_len (x : U128) : (U128.enc x).length = 2 := rfl
theorem U128.enc_0 (x : U128) : (U128.enc x)[0]? = some (.i .u64 x.hi) := rfl
theorem U128.enc_1 (x : U128) : (U128.enc x)[1]? = some (.i .u64 x.lo) := rfl
theorem U128.enc_all (x : U128) : (U128.enc x).take 2 = U128.enc x := rfl
theorem U128.encC_all (x : U128) : ((U128.enc x).map C.d).take 2 = (U128.enc x).map C.d := rfl
end Go.Ab
