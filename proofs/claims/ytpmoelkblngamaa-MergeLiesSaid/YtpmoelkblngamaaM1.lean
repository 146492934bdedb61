/- merge: what the blames of scans are; what is inside. -/
import Derived.Test.YtpmoelkblngamaaM0
namespace Go.Proofs.Ytpmoelkblngamaa

/-- In or out: on the way of its title. -/
def wayB (s : Scn) : Bool := decide (s.kind = 1) || decide (s.kind = 2)

def forkB (s : Scn) : Blm := ⟨2, s.serial, s.gate, s.number, s.gate, s.number⟩
def orderB (s t : Scn) : Blm := ⟨3, s.serial, s.gate, s.number, s.gate, t.number⟩
def gapB (g n most : Int) : Blm := ⟨3, 0, g, n, -1, most⟩
def copyB (s t : Scn) : Blm := ⟨1, s.serial, s.gate, s.number, t.gate, t.number⟩
def fork2B (s t : Scn) : Blm := ⟨2, s.serial, s.gate, s.number, t.gate, t.number⟩
def staleB (s : Scn) (g : Int) : Blm := ⟨4, s.serial, s.gate, s.number, -1, g⟩

/-- A title's owner's say: serial and since when it is revoked. -/
abbrev GoneT := Int × Int

def sinceS (gone : List GoneT) (serial : Int) : Int := ((gone.find? fun g => decide (g.1 = serial)).map (·.2)).getD 0

/-- The scans of a gate, in their order. -/
def gateL (x : List Scn) (g : Int) : List Scn := x.filter fun s => decide (s.gate = g)
/-- The way of a title. -/
def wayL (x : List Scn) (k : Int) : List Scn := x.filter fun s => wayB s && decide (s.serial = k)

/-- Some scan ahead has this number. -/
def seenB (l : List Scn) (n : Int) : Bool := l.any fun t => decide (t.number = n)

/-- The first scans of their numbers. -/
def firstL (l : List Scn) : List Scn := l.foldl (fun out s => if seenB out s.number then out else out ++ [s]) []

/-- What gate blames, at the scans of one gate. -/
def GateBl (l : List Scn) (b : Blm) : Prop :=
  (∃ pre s post, l = pre ++ s :: post ∧ seenB pre s.number = true ∧ b = forkB s) ∨
  (∃ s t, s ∈ firstL l ∧ t ∈ firstL l ∧ t.number < s.number ∧ (∀ u ∈ l, ¬ (t.number < u.number ∧ u.number < s.number)) ∧ s.time < t.time ∧ b = orderB s t) ∨
  (∃ u n, u ∈ l ∧ (∀ v ∈ l, v.number ≤ u.number) ∧ u.number ≤ 4000 ∧ 1 ≤ n ∧ n < u.number ∧ seenB l n = false ∧ b = gapB u.gate n u.number)

/-- What a title's way is blamed for. -/
def WayBl (gone : List GoneT) (stale : Int) (l : List Scn) (b : Blm) : Prop :=
  (∃ s ∈ l, s.kind = 1 ∧ 1 ≤ sinceS gone s.serial ∧ sinceS gone s.serial ≤ 1000000000 ∧ sinceS gone s.serial + stale < s.time ∧ b = staleB s (sinceS gone s.serial)) ∨
  (∃ pre t s post, l = pre ++ t :: s :: post ∧ s.kind = 1 ∧ t.kind = 1 ∧ t.gate ≠ s.gate ∧ b = copyB s t) ∨
  (∃ pre t s post, l = pre ++ t :: s :: post ∧ s.kind = 1 ∧ t.kind = 1 ∧ t.gate = s.gate ∧ t.number ≠ s.number ∧ b = fork2B s t)

/-- All blames of scans that are in order. -/
def IsBl (gone : List GoneT) (stale : Int) (x : List Scn) (b : Blm) : Prop := (∃ g, GateBl (gateL x g) b) ∨ ∃ k, WayBl gone stale (wayL x k) b

/-- The titles that are inside. -/
def IsIn (x : List Scn) (k : Int) : Prop := ∃ s, (wayL x k).getLast? = some s ∧ s.kind = 1

def staleN (stale : Int) : Int := max 0 (min stale 1000000000)
end Go.Proofs.Ytpmoelkblngamaa
