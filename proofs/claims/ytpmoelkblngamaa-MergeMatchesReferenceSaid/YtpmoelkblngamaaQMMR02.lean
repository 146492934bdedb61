/- merge: what the blames of scans are; what is inside; merge: the first scans of their numbers; scans that were added at the end. -/
import Derived.Test.YtpmoelkblngamaaQMMR01

namespace Go.Proofs.Ytpmoelkblngamaa

/-- In or out: on the way of its title. -/
def wayB (s : Scn) : Bool := decide (s.kind = 1) || decide (s.kind = 2)

def forkB (s : Scn) : Blm := ⟨2, s.serial, s.gate, s.number, s.gate, s.number⟩
def orderB (s t : Scn) : Blm := ⟨3, s.serial, s.gate, s.number, s.gate, t.number⟩
def gapB (g n most : Int) : Blm := ⟨3, 0, g, n, -1, most⟩
def copyB (s t : Scn) : Blm := ⟨1, s.serial, s.gate, s.number, t.gate, t.number⟩
def fork2B (s t : Scn) : Blm := ⟨2, s.serial, s.gate, s.number, t.gate, t.number⟩
def staleB (s : Scn) (g : Int) : Blm := ⟨4, s.serial, s.gate, s.number, -1, g⟩

/-- A title's owner's say: serial and since when it is revoked. -/
abbrev GoneT := Int × Int

def sinceS (gone : List GoneT) (serial : Int) : Int := ((gone.find? fun g => decide (g.1 = serial)).map (·.2)).getD 0

/-- The scans of a gate, in their order. -/
def gateL (x : List Scn) (g : Int) : List Scn := x.filter fun s => decide (s.gate = g)
/-- The way of a title. -/
def wayL (x : List Scn) (k : Int) : List Scn := x.filter fun s => wayB s && decide (s.serial = k)

/-- Some scan ahead has this number. -/
def seenB (l : List Scn) (n : Int) : Bool := l.any fun t => decide (t.number = n)

/-- The first scans of their numbers. -/
def firstL (l : List Scn) : List Scn := l.foldl (fun out s => if seenB out s.number then out else out ++ [s]) []

/-- What gate blames, at the scans of one gate. -/
def GateBl (l : List Scn) (b : Blm) : Prop :=
  (∃ pre s post, l = pre ++ s :: post ∧ seenB pre s.number = true ∧ b = forkB s) ∨
  (∃ s t, s ∈ firstL l ∧ t ∈ firstL l ∧ t.number < s.number ∧ (∀ u ∈ l, ¬ (t.number < u.number ∧ u.number < s.number)) ∧ s.time < t.time ∧ b = orderB s t) ∨
  (∃ u n, u ∈ l ∧ (∀ v ∈ l, v.number ≤ u.number) ∧ u.number ≤ 4000 ∧ 1 ≤ n ∧ n < u.number ∧ seenB l n = false ∧ b = gapB u.gate n u.number)

/-- What a title's way is blamed for. -/
def WayBl (gone : List GoneT) (stale : Int) (l : List Scn) (b : Blm) : Prop :=
  (∃ s ∈ l, s.kind = 1 ∧ 1 ≤ sinceS gone s.serial ∧ sinceS gone s.serial ≤ 1000000000 ∧ sinceS gone s.serial + stale < s.time ∧ b = staleB s (sinceS gone s.serial)) ∨
  (∃ pre t s post, l = pre ++ t :: s :: post ∧ s.kind = 1 ∧ t.kind = 1 ∧ t.gate ≠ s.gate ∧ b = copyB s t) ∨
  (∃ pre t s post, l = pre ++ t :: s :: post ∧ s.kind = 1 ∧ t.kind = 1 ∧ t.gate = s.gate ∧ t.number ≠ s.number ∧ b = fork2B s t)

/-- All blames of scans that are in order. -/
def IsBl (gone : List GoneT) (stale : Int) (x : List Scn) (b : Blm) : Prop := (∃ g, GateBl (gateL x g) b) ∨ ∃ k, WayBl gone stale (wayL x k) b

/-- The titles that are inside. -/
def IsIn (x : List Scn) (k : Int) : Prop := ∃ s, (wayL x k).getLast? = some s ∧ s.kind = 1

def staleN (stale : Int) : Int := max 0 (min stale 1000000000)
end Go.Proofs.Ytpmoelkblngamaa

namespace Go.Proofs.Ytpmoelkblngamaa

theorem seen_iff {l : List Scn} {n : Int} : seenB l n = true ↔ ∃ t ∈ l, t.number = n := by
  unfold seenB
  rw [List.any_eq_true]
  exact ⟨fun ⟨t, h, e⟩ => ⟨t, h, by simpa using e⟩, fun ⟨t, h, e⟩ => ⟨t, h, by simpa using e⟩⟩
theorem seen_not {l : List Scn} {n : Int} : seenB l n = false ↔ ∀ t ∈ l, t.number ≠ n := by
  rw [← Bool.not_eq_true, seen_iff]
  exact ⟨fun h t ht e => h ⟨t, ht, e⟩, fun h ⟨t, ht, e⟩ => h t ht e⟩

theorem first_snoc (l : List Scn) (s : Scn) : firstL (l ++ [s]) = if seenB (firstL l) s.number then firstL l else firstL l ++ [s] := by
  unfold firstL
  rw [List.foldl_append]
  rfl

theorem seen_snoc (l : List Scn) (s : Scn) (n : Int) : seenB (l ++ [s]) n = (seenB l n || decide (s.number = n)) := by
  unfold seenB
  rw [List.any_append]
  simp

/-- A list is built from its end. -/
theorem snoc_ind {α : Type} {P : List α → Prop} (h0 : P []) (h1 : ∀ l x, P l → P (l ++ [x])) (l : List α) : P l := by
  have : ∀ n (l : List α), l.length = n → P l := by
    intro n
    induction n with
    | zero => intro l h; rw [List.length_eq_zero_iff.mp h]; exact h0
    | succ n ih =>
      intro l h
      rcases List.eq_nil_or_concat l with rfl | ⟨m, x, rfl⟩
      · exact h0
      · rw [List.concat_eq_append]
        refine h1 m x (ih m ?_)
        simpa using h
  exact this l.length l rfl

theorem first_seen (l : List Scn) (n : Int) : seenB (firstL l) n = seenB l n := by
  induction l using snoc_ind with
  | h0 => rfl
  | h1 l x ih =>
    rw [first_snoc, seen_snoc]
    split
    · rename_i h
      rw [ih]
      by_cases e : x.number = n
      · subst e; rw [← ih, h]; rfl
      · simp [e]
    · rw [seen_snoc, ih]

theorem first_mem (l : List Scn) : ∀ s ∈ firstL l, s ∈ l := by
  induction l using snoc_ind with
  | h0 => exact fun s h => h
  | h1 l x ih =>
    intro s h
    rw [first_snoc] at h
    split at h
    · exact List.mem_append_left _ (ih s h)
    · rcases List.mem_append.mp h with h | h
      · exact List.mem_append_left _ (ih s h)
      · exact List.mem_append_right _ h

theorem first_nodup (l : List Scn) : ((firstL l).map (·.number)).Nodup := by
  induction l using snoc_ind with
  | h0 => exact List.nodup_nil
  | h1 l x ih =>
    rw [first_snoc]
    split
    · exact ih
    · rename_i h
      rw [List.map_append, List.nodup_append]
      refine ⟨ih, List.pairwise_singleton _ _, fun a ha b hb => ?_⟩
      obtain ⟨t, ht, rfl⟩ := List.mem_map.mp ha
      have hb : b = x.number := by simpa using hb
      subst hb
      have h : seenB (firstL l) x.number = false := by simpa using h
      exact seen_not.mp h t ht

/-- Where all numbers differ, all are first. -/
theorem first_all {l : List Scn} (h : (l.map (·.number)).Nodup) : firstL l = l := by
  induction l using snoc_ind with
  | h0 => rfl
  | h1 l x ih =>
    rw [List.map_append, List.nodup_append] at h
    rw [first_snoc, ih h.1, if_neg]
    rw [Bool.not_eq_true, seen_not]
    intro t ht e
    exact h.2.2 _ (List.mem_map_of_mem ht) x.number (by simp) e

theorem gate_snoc (l : List Scn) (s : Scn) (g : Int) : gateL (l ++ [s]) g = gateL l g ++ (if s.gate = g then [s] else []) := by
  unfold gateL
  rw [List.filter_append]
  by_cases h : s.gate = g <;> simp [h]
theorem way_snoc (l : List Scn) (s : Scn) (k : Int) : wayL (l ++ [s]) k = wayL l k ++ (if wayB s = true ∧ s.serial = k then [s] else []) := by
  unfold wayL
  rw [List.filter_append]
  by_cases h : s.serial = k
  · cases hw : wayB s <;> simp [h, hw]
  · simp [h]

/-! ### Honest gates -/
/-- A step: gate, title, time. -/
abbrev StepT := Nat × Nat × Nat

structure Hon where
  out : List Scn
  num : Nat → Nat
  ins : Nat → Bool
  now : Int

def honStep (h : Hon) (s : StepT) : Hon :=
  ⟨h.out ++ [⟨((1 + s.1 % 4 : Nat) : Int), ((h.num (1 + s.1 % 4) + 1 : Nat) : Int), h.now + (1 + (s.2.2 : Int)), (s.2.1 : Int), if h.ins s.2.1 then 2 else 1, []⟩],
   fun g => if g = 1 + s.1 % 4 then h.num g + 1 else h.num g, fun k => if k = s.2.1 then !h.ins k else h.ins k, h.now + (1 + (s.2.2 : Int))⟩

def hon0 : Hon := ⟨[], fun _ => 0, fun _ => false, 1⟩
def honS (l : List StepT) : Hon := l.foldl honStep hon0

def altK (n : Nat) : List Int := (List.range n).map fun i => if i % 2 = 0 then 1 else 2

/-- The scans of honest gates. -/
structure HonInv (h : Hon) : Prop where
  times : h.out.Pairwise fun a b => a.time < b.time
  last : ∀ s ∈ h.out, s.time ≤ h.now
  gates : ∀ s ∈ h.out, 1 ≤ s.gate ∧ s.gate ≤ 4
  sers : ∀ s ∈ h.out, 0 ≤ s.serial
  kinds : ∀ s ∈ h.out, s.kind = 1 ∨ s.kind = 2
  nums : ∀ g : Nat, (gateL h.out g).map (·.number) = (List.range' 1 (h.num g)).map Int.ofNat
  alt : ∀ k : Nat, (wayL h.out k).map (·.kind) = altK (wayL h.out k).length ∧ h.ins k = decide ((wayL h.out k).length % 2 = 1)

theorem alt_snoc (n : Nat) : altK (n + 1) = altK n ++ [if n % 2 = 0 then 1 else 2] := by
  unfold altK
  rw [List.range_succ, List.map_append]
  rfl

theorem hon_inv0 : HonInv hon0 := ⟨List.Pairwise.nil, fun s h => absurd h (by simp [hon0]), fun s h => absurd h (by simp [hon0]), fun s h => absurd h (by simp [hon0]), fun s h => absurd h (by simp [hon0]), fun g => rfl, fun k => ⟨rfl, rfl⟩⟩

theorem hon_inv {h : Hon} (hi : HonInv h) (s : StepT) : HonInv (honStep h s) := by
  have hk : ∀ b : Bool, (if b then (2 : Int) else 1) = 1 ∨ (if b then (2 : Int) else 1) = 2 := fun b => by cases b <;> simp
  refine ⟨?_, ?_, ?_, ?_, ?_, ?_, ?_⟩
  · refine List.pairwise_append.mpr ⟨hi.times, List.pairwise_singleton _ _, fun a ha b hb => ?_⟩
    have hb := List.mem_singleton.mp hb
    subst hb
    have := hi.last a ha
    dsimp only
    omega
  · intro t ht
    rcases List.mem_append.mp ht with ht | ht
    · have := hi.last t ht
      show t.time ≤ h.now + (1 + (s.2.2 : Int))
      omega
    · have ht := List.mem_singleton.mp ht
      subst ht
      exact Int.le_refl _
  · intro t ht
    rcases List.mem_append.mp ht with ht | ht
    · exact hi.gates t ht
    · have ht := List.mem_singleton.mp ht
      subst ht
      dsimp only
      omega
  · intro t ht
    rcases List.mem_append.mp ht with ht | ht
    · exact hi.sers t ht
    · have ht := List.mem_singleton.mp ht
      subst ht
      dsimp only
      omega
  · intro t ht
    rcases List.mem_append.mp ht with ht | ht
    · exact hi.kinds t ht
    · have ht := List.mem_singleton.mp ht
      subst ht
      exact hk _
  · intro g
    show (gateL (h.out ++ [_]) g).map (·.number) = _
    rw [gate_snoc, List.map_append, hi.nums g]
    show _ = (List.range' 1 (if g = 1 + s.1 % 4 then h.num g + 1 else h.num g)).map Int.ofNat
    by_cases e : g = 1 + s.1 % 4
    · subst e
      rw [if_pos rfl, if_pos rfl, List.range'_1_concat, List.map_append]
      refine congrArg _ ?_
      simp
      omega
    · rw [if_neg (by dsimp only; omega), if_neg e]
      simp
  · intro k
    show (wayL (h.out ++ [_]) k).map (·.kind) = altK (wayL (h.out ++ [_]) k).length ∧ (if k = s.2.1 then !h.ins k else h.ins k) = decide ((wayL (h.out ++ [_]) k).length % 2 = 1)
    rw [way_snoc]
    obtain ⟨h1, h2⟩ := hi.alt k
    by_cases e : k = s.2.1
    · subst e
      have hw : ∀ a b c d e f, wayB ⟨a, b, c, d, if h.ins e then 2 else 1, f⟩ = true := fun a b c d e f => by
        unfold wayB
        dsimp only
        cases h.ins e <;> rfl
      rw [if_pos ⟨hw _ _ _ _ _ _, rfl⟩, if_pos rfl, List.map_append, h1, List.length_append, List.length_singleton, alt_snoc, h2]
      refine ⟨?_, ?_⟩
      · refine congrArg _ ?_
        simp only [List.map_cons, List.map_nil, decide_eq_true_eq]
        by_cases hm : (wayL h.out ↑s.2.1).length % 2 = 0
        · rw [if_pos hm, if_neg (by omega)]
        · rw [if_neg hm, if_pos (by omega)]
      · by_cases hm : (wayL h.out ↑s.2.1).length % 2 = 1
        · rw [decide_eq_true hm, decide_eq_false (by omega)]; rfl
        · rw [decide_eq_false hm, decide_eq_true (by omega)]; rfl
    · rw [if_neg (fun h => e (by have := h.2; dsimp only at this; omega)), if_neg e, List.append_nil]
      exact ⟨h1, h2⟩

theorem hon_all (l : List StepT) : HonInv (honS l) := by
  induction l using snoc_ind with
  | h0 => exact hon_inv0
  | h1 l x ih =>
    unfold honS at *
    rw [List.foldl_append]
    exact hon_inv ih x
end Go.Proofs.Ytpmoelkblngamaa
