/- hall: the plain model: what a plan is, its faults, its places; hall: how the structs lie in memory. -/
import Derived.Test.YtmcdhggnpfhlmaaGreatQHMR00
import Derived.Test.YtmcdhggnpfhlmaaGreatQHMR01
import Derived.ArgAppend
import Derived.Below
import Derived.BigQuiet
import Derived.BigRegion
import Derived.Deep.AppendLies
import Derived.Deep.RegionHeldLaw
import Derived.Deep.RegionWith
import Derived.Deep.SlicePairs
import Derived.IntWalk
import Derived.Laws.EntriesVeiled
import Derived.WideLaws
import Derived.Laws.Rows
import Derived.Laws.StructEq
import Derived.Laws.Cover1
import Derived.Lib.SmallJoins
import Derived.Maps.AppendAt
import Derived.RegionTactic
import Derived.StillTailTactics
import Derived.RangeFuncRecord
import Derived.Test.YtmcdhggnpfhlmaaGreatProg

set_option linter.unusedVariables false
set_option linter.unusedSimpArgs false
namespace Go.Proofs.YtmcdhggnpfhlmaaGreat

abbrev Bst := List UInt8

structure BoxR where
 x : Int
 y : Int
 x2 : Int
 y2 : Int
deriving DecidableEq

structure PntR where
 x : Int
 y : Int
deriving DecidableEq

structure MarkR where
 kind : Int
 seat : Int
 wth : Int
deriving DecidableEq

structure RowR where
 name : Bst
 x : Int
 y : Int
 fr : Int
 to : Int
 step : Int
 ma : Option Addr
 mn : Nat
 mc : Nat
 marks : List MarkR
 at' : Int

structure BlkR where
 name : Bst
 ra : Option Addr
 rn : Nat
 rc : Nat
 rows : List RowR
 at' : Int

structure AreaR where
 name : Bst
 box : BoxR
 holds : Int
 at' : Int

structure LevR where
 name : Bst
 height : Int
 ba : Option Addr
 bn : Nat
 bc : Nat
 blocks : List BlkR
 aa : Option Addr
 an : Nat
 ac : Nat
 areas : List AreaR
 sa : Option Addr
 sn : Nat
 sc : Nat
 aisles : List BoxR
 pa : Option Addr
 pn : Nat
 pc : Nat
 pillars : List BoxR
 da : Option Addr
 dn : Nat
 dc : Nat
 doors : List PntR
 at' : Int

structure HallR where
 name : Bst
 stage : PntR
 la : Option Addr
 ln : Nat
 lc : Nat
 levels : List LevR

structure FaultR where
 err : Int
 at' : Int
 other : Int
deriving DecidableEq

structure PlaceR where
 kind : Int
 level : Int
 block : Int
 row : Int
 seat : Int
 x : Int
 y : Int
 view : Int
 wth : Int
deriving DecidableEq

/-! ### Rectangles -/
def coordB (n : Int) : Bool := decide (0 ≤ n) && decide (n ≤ 10000)
def boxB (b : BoxR) : Bool := coordB b.x && coordB b.y && coordB b.x2 && coordB b.y2 && decide (b.x ≤ b.x2) && decide (b.y ≤ b.y2)
def insideB (b : BoxR) (x y : Int) : Bool := decide (b.x ≤ x) && decide (x ≤ b.x2) && decide (b.y ≤ y) && decide (y ≤ b.y2)
def meetB (a b : BoxR) : Bool := decide (max a.x b.x ≤ min a.x2 b.x2) && decide (max a.y b.y ≤ min a.y2 b.y2)

/-! ### Which aisles are reached -/
def doorB (D : List PntR) (b : BoxR) : Bool := D.any fun p => insideB b p.x p.y
/-- Aisle i is reached. -/
inductive Rch (A : List BoxR) (D : List PntR) : Nat → Prop
 | door (i : Nat) (h : i < A.length) (hd : doorB D A[i] = true) : Rch A D i
 | step (i k : Nat) (hi : i < A.length) (hk : k < A.length) (h : Rch A D k) (hm : meetB A[k] A[i] = true) : Rch A D i

open Classical in
/-- Of each aisle whether it is reached. -/
noncomputable def reachS (A : List BoxR) (D : List PntR) : List Bool := (List.range A.length).map fun i => decide (Rch A D i)

/-! ### Rows -/
def markS (ms : List MarkR) (seat : Int) : MarkR := (ms.find? fun m => decide (m.seat = seat)).getD ⟨0, 0, 0⟩
/-- How many numbers there are from a to b. -/
def spanS (a b : Int) : Nat := (b - a + 1).toNat
/-- The seats of a row, with their x. -/
def seatsS (r : RowR) : List (Int × Int) :=
 ((List.range (spanS r.fr r.to)).map fun (i : Nat) => (r.fr + i, r.x + i * r.step)).filter fun p => !decide ((markS r.marks p.1).kind = 1)

def wheelB (ms : List MarkR) (seat : Int) : Bool := ms.any fun m => decide (m.seat = seat) && decide (m.kind = 2)

/-- The fault of a row's marks; 0: none. -/
def marksS (r : RowR) : Int :=
 if r.marks.any (fun m => decide (m.kind < 1) || decide (4 < m.kind)) then 1
 else if r.marks.any (fun m => decide (m.seat < r.fr) || decide (r.to < m.seat)) then 11
 else if !decide ((r.marks.map (·.seat)).Nodup) then 9
 else if r.marks.any (fun m => decide (m.kind = 4) && !wheelB r.marks m.wth) then 11
 else 0


def rowFault (rows : List RowR) (k : Nat) (r : RowR) : List FaultR :=
 let first := rows.findIdx fun x => decide (x.name = r.name)
 if first < k then [⟨9, r.at', ((rows[first]?).map (·.at')).getD 0⟩]
 else if r.fr < 1 ∨ r.to < r.fr ∨ 10000 < r.to ∨ r.step < 1 ∨ ¬ (coordB r.x = true) ∨ ¬ (coordB r.y = true) then [⟨2, r.at', -1⟩]
 else if r.fr < r.to ∧ (10000 < r.step ∨ ¬ (coordB (r.x + (r.to - r.fr) * r.step) = true)) then [⟨2, r.at', -1⟩]
 else if 60 ≤ r.to - r.fr ∨ 60 < r.marks.length then [⟨3, r.at', -1⟩]
 else if marksS r = 0 then [] else [⟨marksS r, r.at', -1⟩]

def blockFault (bs : List BlkR) (i : Nat) (b : BlkR) : List FaultR :=
 let first := bs.findIdx fun x => decide (x.name = b.name)
 if first < i then [⟨9, b.at', ((bs[first]?).map (·.at')).getD 0⟩]
 else if 60 < b.rows.length then [⟨3, b.at', -1⟩] else []

def areaFault (l : LevR) (i : Nat) (a : AreaR) : List FaultR :=
 let block := l.blocks.findIdx fun x => decide (x.name = a.name)
 let first := l.areas.findIdx fun x => decide (x.name = a.name)
 if block < l.blocks.length then [⟨9, a.at', ((l.blocks[block]?).map (·.at')).getD 0⟩]
 else if first < i then [⟨9, a.at', ((l.areas[first]?).map (·.at')).getD 0⟩]
 else if ¬ (boxB a.box = true) ∨ a.holds < 1 ∨ 4000 < a.holds then [⟨2, a.at', -1⟩] else []

def levelFault (ls : List LevR) (n : Nat) (l : LevR) : List FaultR :=
 let first := ls.findIdx fun x => decide (x.name = l.name)
 if first < n then [⟨9, l.at', ((ls[first]?).map (·.at')).getD 0⟩]
 else if 8 ≤ n ∨ 40 < l.blocks.length + l.areas.length ∨ 40 < l.aisles.length ∨ 40 < l.pillars.length ∨ 40 < l.doors.length then [⟨3, l.at', -1⟩]
 else if !coordB l.height || ((l.aisles ++ l.pillars).any fun b => !boxB b) || (l.doors.any fun p => !(coordB p.x && coordB p.y)) then [⟨2, l.at', -1⟩] else []

/-- All faults of single things, in order. -/
def singleS (h : HallR) : List FaultR :=
 h.levels.zipIdx.flatMap fun (l, n) => levelFault h.levels n l ++
  (l.blocks.zipIdx.flatMap fun (b, i) => blockFault l.blocks i b ++ b.rows.zipIdx.flatMap fun (r, k) => rowFault b.rows k r) ++
  l.areas.zipIdx.flatMap fun (a, i) => areaFault l i a

/-! ### Several things -/
def allRows (l : LevR) : List RowR := l.blocks.flatMap (·.rows)
/-- A seat of both at one point. -/
def shareB (a b : RowR) : Bool := (seatsS a).any fun p => (seatsS b).any fun q => decide (p.2 = q.2) && decide (a.y = b.y)
def blockedB (l : LevR) (r : RowR) : Bool := (seatsS r).any fun p => (l.pillars.any fun b => insideB b p.2 r.y) || (l.aisles.any fun b => insideB b p.2 r.y)
def leftS (r : RowR) : Int := r.x - r.step
def rightS (r : RowR) : Int := IntKind.i64.wrap (r.x + (r.to - r.fr + 1) * r.step)
/-- A reached aisle is as required. -/
def openB (re : List Bool) (l : LevR) (is : BoxR → Bool) : Bool := (l.aisles.zip re).any fun p => p.2 && is p.1
def besideB (re : List Bool) (l : LevR) (r : RowR) : Bool := openB re l fun b => insideB b (leftS r) r.y || insideB b (rightS r) r.y
def rowFaults (re : List Bool) (l : LevR) (before : List RowR) (r : RowR) : List FaultR :=
 (before.filter fun x => shareB r x).map (fun x => ⟨13, r.at', x.at'⟩) ++ (if blockedB l r then [⟨13, r.at', -1⟩] else []) ++ (if besideB re l r then [] else [⟨14, r.at', -1⟩])
def inAreaB (a : AreaR) (r : RowR) : Bool := (seatsS r).any fun p => insideB a.box p.2 r.y
def areaFaults (re : List Bool) (l : LevR) (before : List AreaR) (a : AreaR) : List FaultR :=
 ((allRows l).filter fun r => inAreaB a r).map (fun r => ⟨13, a.at', r.at'⟩) ++ (before.filter fun b => meetB a.box b.box).map (fun b => ⟨13, a.at', b.at'⟩) ++
  (if openB re l (fun b => meetB a.box b) then [] else [⟨14, a.at', -1⟩])
def severalR (re : List Bool) (l : LevR) : List FaultR :=
 ((allRows l).zipIdx.flatMap fun (r, k) => rowFaults re l ((allRows l).take k) r) ++ l.areas.zipIdx.flatMap fun (a, i) => areaFaults re l (l.areas.take i) a
noncomputable def severalS (l : LevR) : List FaultR := severalR (reachS l.aisles l.doors) l

/-! ### Sight -/
def sideS (a b p : PntR) : Int := (b.x - a.x) * (p.y - a.y) - (b.y - a.y) * (p.x - a.x)
def crossB (a b : PntR) (x : BoxR) : Bool :=
 if !(coordB a.x && coordB a.y && coordB b.x && coordB b.y && coordB x.x && coordB x.y && coordB x.x2 && coordB x.y2) || decide (x.x2 < x.x) || decide (x.y2 < x.y) then false
 else if decide (max a.x b.x < x.x) || decide (x.x2 < min a.x b.x) || decide (max a.y b.y < x.y) || decide (x.y2 < min a.y b.y) then false
 else
  let cs := [sideS a b ⟨x.x, x.y⟩, sideS a b ⟨x.x2, x.y⟩, sideS a b ⟨x.x, x.y2⟩, sideS a b ⟨x.x2, x.y2⟩]
  (!cs.all fun s => decide (0 < s)) && (!cs.all fun s => decide (s < 0))
def viewS (stage : PntR) (l : LevR) (p : PntR) : Int :=
 if !(coordB p.x && coordB p.y && coordB stage.x && coordB stage.y && coordB l.height) then 3
 else
  let x := p.x - stage.x
  let y := p.y - stage.y
  let d := x * x + y * y + l.height * l.height
  min ((if 1000000 < d then 1 else 0) + (if 9000000 < d then 1 else 0) + ((l.pillars.filter fun b => crossB p stage b).length : Int)) 3

/-! ### Places -/
def countS (h : HallR) : Int := (h.levels.map fun l => ((l.blocks.map fun b => (b.rows.map fun r => ((seatsS r).length : Int)).sum).sum + (l.areas.map (·.holds)).sum)).sum
def kindS (k : Int) : Int := if k = 2 then 1 else if k = 4 then 2 else 0
def seatPlace (h : HallR) (l : LevR) (n i k : Nat) (r : RowR) (p : Int × Int) : PlaceR :=
 let m := (markS r.marks p.1).kind
 let v := viewS h.stage l ⟨p.2, r.y⟩
 ⟨kindS m, n, i, k, p.1, p.2, r.y, if m = 3 then max v 2 else v, -1⟩
/-- Where a seat stands in a row's list. -/
def placeOf (r : RowR) (s : Int) : Nat := (seatsS r).findIdx fun p => decide (p.1 = s)
/-- What belongs to a place of a row: its companion's or wheelchair's number. -/
def withS (r : RowR) (first : Nat) (s : Int) : Int :=
 let m := markS r.marks s
 if m.kind = 4 then (first + placeOf r m.wth : Nat)
 else if m.kind = 2 then
  match (seatsS r).find? fun q => decide ((markS r.marks q.1).kind = 4) && decide ((markS r.marks q.1).wth = s) with
  | some q => (first + placeOf r q.1 : Nat)
  | none => -1
 else -1
def rowPlaces (h : HallR) (l : LevR) (n i k : Nat) (r : RowR) (first : Nat) : List PlaceR :=
 (seatsS r).map fun p => { seatPlace h l n i k r p with wth := withS r first p.1 }
def areaPlaces (h : HallR) (l : LevR) (n i : Nat) (a : AreaR) : List PlaceR :=
 let x := Int.tdiv (a.box.x + a.box.x2) 2
 let y := Int.tdiv (a.box.y + a.box.y2) 2
 let v := viewS h.stage l ⟨x, y⟩
 (List.range a.holds.toNat).map fun (s : Nat) => ⟨3, n, (l.blocks.length + i : Nat), -1, (s : Int) + 1, x, y, v, -1⟩
/-- The places behind what there is already. -/
def putRow (h : HallR) (l : LevR) (n i : Nat) (out : List PlaceR) (rk : RowR × Nat) : List PlaceR := out ++ rowPlaces h l n i rk.2 rk.1 out.length
def putBlk (h : HallR) (l : LevR) (n : Nat) (out : List PlaceR) (bi : BlkR × Nat) : List PlaceR := bi.1.rows.zipIdx.foldl (putRow h l n bi.2) out
def putArea (h : HallR) (l : LevR) (n : Nat) (out : List PlaceR) (ai : AreaR × Nat) : List PlaceR := out ++ areaPlaces h l n ai.2 ai.1
def putLevel (h : HallR) (out : List PlaceR) (ln : LevR × Nat) : List PlaceR := ln.1.areas.zipIdx.foldl (putArea h ln.1 ln.2) (ln.1.blocks.zipIdx.foldl (putBlk h ln.1 ln.2) out)
def placesS (h : HallR) : List PlaceR := h.levels.zipIdx.foldl (putLevel h) []

noncomputable def faultsS (h : HallR) : List FaultR :=
 if singleS h ≠ [] then singleS h
 else if ¬ (coordB h.stage.x && coordB h.stage.y) then [⟨2, -1, -1⟩]
 else if 4000 < countS h then [⟨3, -1, -1⟩]
 else h.levels.flatMap severalS
noncomputable def buildS (h : HallR) : List PlaceR × List FaultR := if faultsS h = [] then (placesS h, []) else ([], faultsS h)
end Go.Proofs.YtmcdhggnpfhlmaaGreat

namespace Go.Proofs.YtmcdhggnpfhlmaaGreat
open Go.RowKit Go.IntWalk
set_option linter.unusedSimpArgs false

def IntE : Enc Int 1 := ⟨fun x => [.int .i64 x], fun _ => rfl, fun x v hv => by
 simp only [List.mem_cons, List.not_mem_nil, or_false] at hv
 subst hv; rfl, by decide⟩

def BoxE : Enc BoxR 4 := ⟨fun x => [.int .i64 x.x, .int .i64 x.y, .int .i64 x.x2, .int .i64 x.y2], fun _ => rfl, fun x v hv => by
 simp only [List.mem_cons, List.not_mem_nil, or_false] at hv
 rcases hv with rfl | rfl | rfl | rfl <;> rfl, by decide⟩
theorem box_at {w : World} {ra : Option Addr} {n : Nat} {l : List BoxR} (h : Recs BoxE w ra n l) (i : Nat) (hi : i < n) (hiE : i < l.length) : ∃ b o, ra = some ⟨b, o, none⟩ ∧ w.cell? ⟨b, o + i * 4, none⟩ = some (.int .i64 l[i].x) ∧ w.cell? ⟨b, o + i * 4 + 1, none⟩ = some (.int .i64 l[i].y) ∧ w.cell? ⟨b, o + i * 4 + 2, none⟩ = some (.int .i64 l[i].x2) ∧ w.cell? ⟨b, o + i * 4 + 3, none⟩ = some (.int .i64 l[i].y2) := by
 obtain ⟨b, o, e, c⟩ := h.2 i hi
 have c0 := c 0 (by omega)
 have c1 := c 1 (by omega)
 have c2 := c 2 (by omega)
 have c3 := c 3 (by omega)
 rw [rc_eq _ _ hiE] at c0 c1 c2 c3
 exact ⟨b, o, e, c0, c1, c2, c3⟩

def PntE : Enc PntR 2 := ⟨fun x => [.int .i64 x.x, .int .i64 x.y], fun _ => rfl, fun x v hv => by
 simp only [List.mem_cons, List.not_mem_nil, or_false] at hv
 rcases hv with rfl | rfl <;> rfl, by decide⟩
theorem pnt_at {w : World} {ra : Option Addr} {n : Nat} {l : List PntR} (h : Recs PntE w ra n l) (i : Nat) (hi : i < n) (hiE : i < l.length) : ∃ b o, ra = some ⟨b, o, none⟩ ∧ w.cell? ⟨b, o + i * 2, none⟩ = some (.int .i64 l[i].x) ∧ w.cell? ⟨b, o + i * 2 + 1, none⟩ = some (.int .i64 l[i].y) := by
 obtain ⟨b, o, e, c⟩ := h.2 i hi
 have c0 := c 0 (by omega)
 have c1 := c 1 (by omega)
 rw [rc_eq _ _ hiE] at c0 c1
 exact ⟨b, o, e, c0, c1⟩

def MarkE : Enc MarkR 3 := ⟨fun x => [.int .i64 x.kind, .int .i64 x.seat, .int .i64 x.wth], fun _ => rfl, fun x v hv => by
 simp only [List.mem_cons, List.not_mem_nil, or_false] at hv
 rcases hv with rfl | rfl | rfl <;> rfl, by decide⟩
theorem mark_at {w : World} {ra : Option Addr} {n : Nat} {l : List MarkR} (h : Recs MarkE w ra n l) (i : Nat) (hi : i < n) (hiE : i < l.length) : ∃ b o, ra = some ⟨b, o, none⟩ ∧ w.cell? ⟨b, o + i * 3, none⟩ = some (.int .i64 l[i].kind) ∧ w.cell? ⟨b, o + i * 3 + 1, none⟩ = some (.int .i64 l[i].seat) ∧ w.cell? ⟨b, o + i * 3 + 2, none⟩ = some (.int .i64 l[i].wth) := by
 obtain ⟨b, o, e, c⟩ := h.2 i hi
 have c0 := c 0 (by omega)
 have c1 := c 1 (by omega)
 have c2 := c 2 (by omega)
 rw [rc_eq _ _ hiE] at c0 c1 c2
 exact ⟨b, o, e, c0, c1, c2⟩

def RowE : Enc RowR 8 := ⟨fun x => [.string (bs x.name), .int .i64 x.x, .int .i64 x.y, .int .i64 x.fr, .int .i64 x.to, .int .i64 x.step, .slice x.ma x.mn x.mc, .int .i64 x.at'], fun _ => rfl, fun x v hv => by
 simp only [List.mem_cons, List.not_mem_nil, or_false] at hv
 rcases hv with rfl | rfl | rfl | rfl | rfl | rfl | rfl | rfl <;> rfl, by decide⟩
theorem row_at {w : World} {ra : Option Addr} {n : Nat} {l : List RowR} (h : Recs RowE w ra n l) (i : Nat) (hi : i < n) (hiE : i < l.length) : ∃ b o, ra = some ⟨b, o, none⟩ ∧ w.cell? ⟨b, o + i * 8, none⟩ = some (.string (bs l[i].name)) ∧ w.cell? ⟨b, o + i * 8 + 1, none⟩ = some (.int .i64 l[i].x) ∧ w.cell? ⟨b, o + i * 8 + 2, none⟩ = some (.int .i64 l[i].y) ∧ w.cell? ⟨b, o + i * 8 + 3, none⟩ = some (.int .i64 l[i].fr) ∧ w.cell? ⟨b, o + i * 8 + 4, none⟩ = some (.int .i64 l[i].to) ∧ w.cell? ⟨b, o + i * 8 + 5, none⟩ = some (.int .i64 l[i].step) ∧ w.cell? ⟨b, o + i * 8 + 6, none⟩ = some (.slice l[i].ma l[i].mn l[i].mc) ∧ w.cell? ⟨b, o + i * 8 + 7, none⟩ = some (.int .i64 l[i].at') := by
 obtain ⟨b, o, e, c⟩ := h.2 i hi
 have c0 := c 0 (by omega)
 have c1 := c 1 (by omega)
 have c2 := c 2 (by omega)
 have c3 := c 3 (by omega)
 have c4 := c 4 (by omega)
 have c5 := c 5 (by omega)
 have c6 := c 6 (by omega)
 have c7 := c 7 (by omega)
 rw [rc_eq _ _ hiE] at c0 c1 c2 c3 c4 c5 c6 c7
 exact ⟨b, o, e, c0, c1, c2, c3, c4, c5, c6, c7⟩

def BlkE : Enc BlkR 3 := ⟨fun x => [.string (bs x.name), .slice x.ra x.rn x.rc, .int .i64 x.at'], fun _ => rfl, fun x v hv => by
 simp only [List.mem_cons, List.not_mem_nil, or_false] at hv
 rcases hv with rfl | rfl | rfl <;> rfl, by decide⟩
theorem blk_at {w : World} {ra : Option Addr} {n : Nat} {l : List BlkR} (h : Recs BlkE w ra n l) (i : Nat) (hi : i < n) (hiE : i < l.length) : ∃ b o, ra = some ⟨b, o, none⟩ ∧ w.cell? ⟨b, o + i * 3, none⟩ = some (.string (bs l[i].name)) ∧ w.cell? ⟨b, o + i * 3 + 1, none⟩ = some (.slice l[i].ra l[i].rn l[i].rc) ∧ w.cell? ⟨b, o + i * 3 + 2, none⟩ = some (.int .i64 l[i].at') := by
 obtain ⟨b, o, e, c⟩ := h.2 i hi
 have c0 := c 0 (by omega)
 have c1 := c 1 (by omega)
 have c2 := c 2 (by omega)
 rw [rc_eq _ _ hiE] at c0 c1 c2
 exact ⟨b, o, e, c0, c1, c2⟩

def AreaE : Enc AreaR 7 := ⟨fun x => [.string (bs x.name), .int .i64 x.box.x, .int .i64 x.box.y, .int .i64 x.box.x2, .int .i64 x.box.y2, .int .i64 x.holds, .int .i64 x.at'], fun _ => rfl, fun x v hv => by
 simp only [List.mem_cons, List.not_mem_nil, or_false] at hv
 rcases hv with rfl | rfl | rfl | rfl | rfl | rfl | rfl <;> rfl, by decide⟩
theorem area_at {w : World} {ra : Option Addr} {n : Nat} {l : List AreaR} (h : Recs AreaE w ra n l) (i : Nat) (hi : i < n) (hiE : i < l.length) : ∃ b o, ra = some ⟨b, o, none⟩ ∧ w.cell? ⟨b, o + i * 7, none⟩ = some (.string (bs l[i].name)) ∧ w.cell? ⟨b, o + i * 7 + 1, none⟩ = some (.int .i64 l[i].box.x) ∧ w.cell? ⟨b, o + i * 7 + 2, none⟩ = some (.int .i64 l[i].box.y) ∧ w.cell? ⟨b, o + i * 7 + 3, none⟩ = some (.int .i64 l[i].box.x2) ∧ w.cell? ⟨b, o + i * 7 + 4, none⟩ = some (.int .i64 l[i].box.y2) ∧ w.cell? ⟨b, o + i * 7 + 5, none⟩ = some (.int .i64 l[i].holds) ∧ w.cell? ⟨b, o + i * 7 + 6, none⟩ = some (.int .i64 l[i].at') := by
 obtain ⟨b, o, e, c⟩ := h.2 i hi
 have c0 := c 0 (by omega)
 have c1 := c 1 (by omega)
 have c2 := c 2 (by omega)
 have c3 := c 3 (by omega)
 have c4 := c 4 (by omega)
 have c5 := c 5 (by omega)
 have c6 := c 6 (by omega)
 rw [rc_eq _ _ hiE] at c0 c1 c2 c3 c4 c5 c6
 exact ⟨b, o, e, c0, c1, c2, c3, c4, c5, c6⟩

def LevE : Enc LevR 8 := ⟨fun x => [.string (bs x.name), .int .i64 x.height, .slice x.ba x.bn x.bc, .slice x.aa x.an x.ac, .slice x.sa x.sn x.sc, .slice x.pa x.pn x.pc, .slice x.da x.dn x.dc, .int .i64 x.at'], fun _ => rfl, fun x v hv => by
 simp only [List.mem_cons, List.not_mem_nil, or_false] at hv
 rcases hv with rfl | rfl | rfl | rfl | rfl | rfl | rfl | rfl <;> rfl, by decide⟩
theorem lev_at {w : World} {ra : Option Addr} {n : Nat} {l : List LevR} (h : Recs LevE w ra n l) (i : Nat) (hi : i < n) (hiE : i < l.length) : ∃ b o, ra = some ⟨b, o, none⟩ ∧ w.cell? ⟨b, o + i * 8, none⟩ = some (.string (bs l[i].name)) ∧ w.cell? ⟨b, o + i * 8 + 1, none⟩ = some (.int .i64 l[i].height) ∧ w.cell? ⟨b, o + i * 8 + 2, none⟩ = some (.slice l[i].ba l[i].bn l[i].bc) ∧ w.cell? ⟨b, o + i * 8 + 3, none⟩ = some (.slice l[i].aa l[i].an l[i].ac) ∧ w.cell? ⟨b, o + i * 8 + 4, none⟩ = some (.slice l[i].sa l[i].sn l[i].sc) ∧ w.cell? ⟨b, o + i * 8 + 5, none⟩ = some (.slice l[i].pa l[i].pn l[i].pc) ∧ w.cell? ⟨b, o + i * 8 + 6, none⟩ = some (.slice l[i].da l[i].dn l[i].dc) ∧ w.cell? ⟨b, o + i * 8 + 7, none⟩ = some (.int .i64 l[i].at') := by
 obtain ⟨b, o, e, c⟩ := h.2 i hi
 have c0 := c 0 (by omega)
 have c1 := c 1 (by omega)
 have c2 := c 2 (by omega)
 have c3 := c 3 (by omega)
 have c4 := c 4 (by omega)
 have c5 := c 5 (by omega)
 have c6 := c 6 (by omega)
 have c7 := c 7 (by omega)
 rw [rc_eq _ _ hiE] at c0 c1 c2 c3 c4 c5 c6 c7
 exact ⟨b, o, e, c0, c1, c2, c3, c4, c5, c6, c7⟩

def FaultE : Enc FaultR 3 := ⟨fun x => [.int .i64 x.err, .int .i64 x.at', .int .i64 x.other], fun _ => rfl, fun x v hv => by
 simp only [List.mem_cons, List.not_mem_nil, or_false] at hv
 rcases hv with rfl | rfl | rfl <;> rfl, by decide⟩
theorem fault_at {w : World} {ra : Option Addr} {n : Nat} {l : List FaultR} (h : Recs FaultE w ra n l) (i : Nat) (hi : i < n) (hiE : i < l.length) : ∃ b o, ra = some ⟨b, o, none⟩ ∧ w.cell? ⟨b, o + i * 3, none⟩ = some (.int .i64 l[i].err) ∧ w.cell? ⟨b, o + i * 3 + 1, none⟩ = some (.int .i64 l[i].at') ∧ w.cell? ⟨b, o + i * 3 + 2, none⟩ = some (.int .i64 l[i].other) := by
 obtain ⟨b, o, e, c⟩ := h.2 i hi
 have c0 := c 0 (by omega)
 have c1 := c 1 (by omega)
 have c2 := c 2 (by omega)
 rw [rc_eq _ _ hiE] at c0 c1 c2
 exact ⟨b, o, e, c0, c1, c2⟩

def PlaceE : Enc PlaceR 9 := ⟨fun x => [.int .i64 x.kind, .int .i64 x.level, .int .i64 x.block, .int .i64 x.row, .int .i64 x.seat, .int .i64 x.x, .int .i64 x.y, .int .i64 x.view, .int .i64 x.wth], fun _ => rfl, fun x v hv => by
 simp only [List.mem_cons, List.not_mem_nil, or_false] at hv
 rcases hv with rfl | rfl | rfl | rfl | rfl | rfl | rfl | rfl | rfl <;> rfl, by decide⟩
theorem place_at {w : World} {ra : Option Addr} {n : Nat} {l : List PlaceR} (h : Recs PlaceE w ra n l) (i : Nat) (hi : i < n) (hiE : i < l.length) : ∃ b o, ra = some ⟨b, o, none⟩ ∧ w.cell? ⟨b, o + i * 9, none⟩ = some (.int .i64 l[i].kind) ∧ w.cell? ⟨b, o + i * 9 + 1, none⟩ = some (.int .i64 l[i].level) ∧ w.cell? ⟨b, o + i * 9 + 2, none⟩ = some (.int .i64 l[i].block) ∧ w.cell? ⟨b, o + i * 9 + 3, none⟩ = some (.int .i64 l[i].row) ∧ w.cell? ⟨b, o + i * 9 + 4, none⟩ = some (.int .i64 l[i].seat) ∧ w.cell? ⟨b, o + i * 9 + 5, none⟩ = some (.int .i64 l[i].x) ∧ w.cell? ⟨b, o + i * 9 + 6, none⟩ = some (.int .i64 l[i].y) ∧ w.cell? ⟨b, o + i * 9 + 7, none⟩ = some (.int .i64 l[i].view) ∧ w.cell? ⟨b, o + i * 9 + 8, none⟩ = some (.int .i64 l[i].wth) := by
 obtain ⟨b, o, e, c⟩ := h.2 i hi
 have c0 := c 0 (by omega)
 have c1 := c 1 (by omega)
 have c2 := c 2 (by omega)
 have c3 := c 3 (by omega)
 have c4 := c 4 (by omega)
 have c5 := c 5 (by omega)
 have c6 := c 6 (by omega)
 have c7 := c 7 (by omega)
 have c8 := c 8 (by omega)
 rw [rc_eq _ _ hiE] at c0 c1 c2 c3 c4 c5 c6 c7 c8
 exact ⟨b, o, e, c0, c1, c2, c3, c4, c5, c6, c7, c8⟩

theorem int_at {w : World} {ra : Option Addr} {n : Nat} {l : List Int} (h : Recs IntE w ra n l) (i : Nat) (hi : i < n) (hiE : i < l.length) : ∃ b o, ra = some ⟨b, o, none⟩ ∧ w.cell? ⟨b, o + i, none⟩ = some (.int .i64 l[i]) := by
 obtain ⟨b, o, e, c⟩ := h.2 i hi
 have c0 := c 0 (by omega)
 rw [rc_eq _ _ hiE, Nat.mul_one] at c0
 exact ⟨b, o, e, c0⟩

/-- What lies in memory of a row, a block, a level, a plan. -/
structure RowR.In (w : World) (r : RowR) : Prop where
 marks : Recs MarkE w r.ma r.mn r.marks
 mn : r.mn ≤ 9223372036854775807
 ma0 : r.ma = none → r.mc = 0
 step : r.step ≤ 9223372036854775807
 keys : ∀ m ∈ r.marks, (Lit.int .i64 m.seat).wf = true ∧ (Lit.int .i64 m.wth).wf = true
def BlkR.In (w : World) (b : BlkR) : Prop := Recs RowE w b.ra b.rn b.rows ∧ b.rn ≤ 9223372036854775807 ∧ ∀ r ∈ b.rows, r.In w
structure LevR.In (w : World) (l : LevR) : Prop where
 blocks : Recs BlkE w l.ba l.bn l.blocks
 bn : l.bn ≤ 9223372036854775807
 blk : ∀ b ∈ l.blocks, b.In w
 areas : Recs AreaE w l.aa l.an l.areas
 an : l.an ≤ 9223372036854775807
 aisles : Recs BoxE w l.sa l.sn l.aisles
 sn : l.sn ≤ 9223372036854775807
 pillars : Recs BoxE w l.pa l.pn l.pillars
 pn : l.pn ≤ 9223372036854775807
 doors : Recs PntE w l.da l.dn l.doors
 dn : l.dn ≤ 9223372036854775807
 sa0 : l.sa = none → l.sc = 0
 pa0 : l.pa = none → l.pc = 0
 da0 : l.da = none → l.dc = 0
structure HallR.In (w : World) (h : HallR) : Prop where
 levels : Recs LevE w h.la h.ln h.levels
 ln : h.ln ≤ 9223372036854775807
 lev : ∀ l ∈ h.levels, l.In w

theorem RowR.In.below {w w' : World} {r : RowR} (h : r.In w) (hb : Below w.heap.size w w') : r.In w' := ⟨h.marks.below hb, h.mn, h.ma0, h.step, h.keys⟩
theorem BlkR.In.below {w w' : World} {b : BlkR} (h : b.In w) (hb : Below w.heap.size w w') : b.In w' := ⟨h.1.below hb, h.2.1, fun r hr => (h.2.2 r hr).below hb⟩
theorem LevR.In.below {w w' : World} {l : LevR} (h : l.In w) (hb : Below w.heap.size w w') : l.In w' :=
 ⟨h.blocks.below hb, h.bn, fun b hbl => (h.blk b hbl).below hb, h.areas.below hb, h.an, h.aisles.below hb, h.sn, h.pillars.below hb, h.pn, h.doors.below hb, h.dn, h.sa0, h.pa0, h.da0⟩
theorem HallR.In.below {w w' : World} {h : HallR} (hh : h.In w) (hb : Below w.heap.size w w') : h.In w' := ⟨hh.levels.below hb, hh.ln, fun l hl => (hh.lev l hl).below hb⟩

theorem wrap_in {x : Int} (h1 : -9223372036854775808 ≤ x) (h2 : x ≤ 9223372036854775807) : IntKind.i64.wrap x = x := i64_in x ⟨h1, h2⟩
theorem wrap_succ {i : Nat} (h : i < 9223372036854775807) : IntKind.i64.wrap ((i : Int) + 1) = ((i + 1 : Nat) : Int) := by
 rw [wrap_in (by omega) (by omega)]
 omega
theorem below_d {n : Nat} {w w' : World} (h : Below n w w') : Below n w w'.drew := below_drewN h 1
end Go.Proofs.YtmcdhggnpfhlmaaGreat