/- FitExact, plain: bestS is the greatest value of a permitted packing, and the steps of Prove are right exactly for it. -/
import Derived.Test.YthabgljdndbphaaGreatDoorQPKP17
import Derived.Test.YthabgljdndbphaaGreatDoorQPKP18
import Derived.Test.YthabgljdndbphaaGreatDoorQPKP21
import Derived.Test.YthabgljdndbphaaGreatDoorQPKP23

set_option linter.unusedVariables false
set_option linter.unusedSimpArgs false
namespace Go.Proofs.YthabgljdndbphaaGreatDoor
open Go.RowKit




/-! ### Choices -/
/-- The decisions about the first n groups. -/
def dec (c : Nat → Int) (n : Nat) : List (Int × Int) := (List.range n).map fun (i : Nat) => ((i : Int), c i)

theorem dec_succ (c : Nat → Int) (n : Nat) : dec c (n + 1) = dec c n ++ [((n : Int), c n)] := by simp [dec, List.range_succ]

theorem dec_length (c : Nat → Int) (n : Nat) : (dec c n).length = n := by simp [dec]

theorem mem_dec (c : Nat → Int) (n : Nat) (p : Int × Int) : p ∈ dec c n ↔ ∃ i, i < n ∧ p = ((i : Int), c i) := by
 unfold dec
 rw [List.mem_map]
 exact ⟨fun ⟨i, hi, e⟩ => ⟨i, List.mem_range.mp hi, e.symm⟩, fun ⟨i, hi, e⟩ => ⟨i, List.mem_range.mpr hi, e.symm⟩⟩

theorem dec_congr (c c' : Nat → Int) (n : Nat) (h : ∀ i, i < n → c i = c' i) : dec c n = dec c' n := by
 unfold dec
 exact List.map_congr_left fun i hi => by rw [h i (List.mem_range.mp hi)]


theorem dec_ok {c : Nat → Int} {n m g : Nat} (hg : g ≤ m) (hc : ∀ i, i < g → -1 ≤ c i ∧ c i < n) : EsOk n m (dec c g) := by
 intro p hp
 obtain ⟨i, hi, rfl⟩ := (mem_dec c g p).mp hp
 have := hc i hi
 dsimp only
 omega

/-- Which runs somebody sits in. -/
def UsedOk (n : Nat) (es : List (Int × Int)) (used : List Bool) : Prop := used.length = n ∧ ∀ r, r < n → (bx used r = true ↔ ∃ p ∈ es, p.2 = (r : Int))

theorem UsedOk.sit {n : Nat} {es : List (Int × Int)} {used : List Bool} (h : UsedOk n es used) (g : Int) (q : Nat) (hq : q < n) : UsedOk n (es ++ [(g, (q : Int))]) (used.set q true) := by
 refine ⟨by rw [List.length_set]; exact h.1, fun r hr => ?_⟩
 rw [bx_set _ _ _ _ (by rw [h.1]; exact hq)]
 by_cases e : q = r
 ·
  rw [if_pos e]
  exact ⟨fun _ => ⟨(g, (q : Int)), by simp, by dsimp only; omega⟩, fun _ => rfl⟩
 ·
  rw [if_neg e, h.2 r hr]
  constructor
  ·
   rintro ⟨p, hp, hpr⟩; exact ⟨p, by simp [hp], hpr⟩
  ·
   rintro ⟨p, hp, hpr⟩
   rcases List.mem_append.mp hp with hp | hp
   ·
    exact ⟨p, hp, hpr⟩
   ·
    rw [List.mem_singleton.mp hp] at hpr; dsimp only at hpr; omega

theorem UsedOk.out {n : Nat} {es : List (Int × Int)} {used : List Bool} (h : UsedOk n es used) (g v : Int) (hv : v < 0) : UsedOk n (es ++ [(g, v)]) used := by
 refine ⟨h.1, fun r hr => ?_⟩
 rw [h.2 r hr]
 constructor
 ·
  rintro ⟨p, hp, hpr⟩; exact ⟨p, by simp [hp], hpr⟩
 ·
  rintro ⟨p, hp, hpr⟩
  rcases List.mem_append.mp hp with hp | hp
  ·
   exact ⟨p, hp, hpr⟩
  ·
   rw [List.mem_singleton.mp hp] at hpr; dsimp only at hpr; omega


theorem bx_rep (m k : Nat) : bx (List.replicate m false) k = false := by
 unfold bx
 simp only [List.getD]
 by_cases h : k < m
 ·
  simp [h]
 ·
  rw [List.getElem?_eq_none (by simpa using h)]; rfl

theorem used_none (n : Nat) : UsedOk n [] (List.replicate n false) := by
 refine ⟨by simp, fun r hr => ?_⟩
 rw [bx_rep]
 exact ⟨fun h => by simp at h, fun ⟨p, hp, _⟩ => by simp at hp⟩

theorem usedS_pos (n r : Nat) (_hr : r < n) : ∀ (es : List (Int × Int)) (L : List Int), L.length = n → (∀ p ∈ es, p.2 < n) → 0 ≤ ix L r → ix L r ≤ ix (es.foldl usedF L) r ∧ ((∃ p ∈ es, p.2 = (r : Int)) → ix L r < ix (es.foldl usedF L) r) := by
 intro es
 induction es with
 | nil => intro L _ _ _; exact ⟨Int.le_refl _, fun ⟨p, hp, _⟩ => by simp at hp⟩
 | cons p es ih =>
  intro L hl hb h0
  have hp := hb p (by simp)
  have hs : ix (usedF L p) r = if p.2 = (r : Int) then ix L r + 1 else ix L r := by
   unfold usedF
   by_cases h : 0 ≤ p.2
   ·
    rw [if_pos h, ix_set _ _ _ _ (by omega)]
    by_cases e : p.2 = (r : Int)
    ·
     rw [if_pos (by omega), if_pos e, show p.2.toNat = r from by omega]
    ·
     rw [if_neg (by omega), if_neg e]
   ·
    rw [if_neg h, if_neg (by omega)]
  have i := ih (usedF L p) (by rw [usedF_length, hl]) (fun q hq => hb q (by simp [hq])) (by rw [hs]; split <;> omega)
  rw [List.foldl_cons]
  rw [hs] at i
  refine ⟨by have := i.1; split at this <;> omega, fun ⟨q, hq, e⟩ => ?_⟩
  rcases List.mem_cons.mp hq with rfl | hq
  ·
   have := i.1; rw [if_pos e] at this; omega
  ·
   have := i.2 ⟨q, hq, e⟩; split at this <;> omega

theorem usedS_iff {n m r : Nat} {es : List (Int × Int)} (hr : r < n) (ho : EsOk n m es) : 0 < ix (usedS n es) r ↔ ∃ p ∈ es, p.2 = (r : Int) := by
 have z : ix (List.replicate n 0) r = 0 := by simp [ix, List.getD, hr]
 constructor
 ·
  intro h
  exact usedS_some (m := m) r hr es (List.replicate n 0) (by simp) ho (by rw [z]; exact h)
 ·
  intro h
  have := (usedS_pos n r hr es (List.replicate n 0) (by simp) (fun p hp => (ho p hp).2.2) (by omega)).2 h
  rw [z] at this
  exact this

theorem roomS_len (G : List (Int × Int)) (es : List (Int × Int)) (R : List Int) : (roomS R G es).length = R.length := by
 unfold roomS
 have : ∀ (es : List (Int × Int)) (L : List Int), (es.foldl (roomF G) L).length = L.length := by
  intro es
  induction es with
  | nil => intro L; rfl
  | cons p es ih => intro L; rw [List.foldl_cons, ih, roomF_length]
 exact this es R

/-- What the first n groups take of run r. -/
def takes (G : List (Int × Int)) (c : Nat → Int) (r : Int) (n : Nat) : Int := sumRows (fun i => if c i = r then gs G i else 0) n

theorem room_takes (R : List Int) (G : List (Int × Int)) (c : Nat → Int) (r : Nat) : ∀ g, (∀ i, i < g → c i < R.length) → ix (roomS R G (dec c g)) r = ix R r - takes G c r g := by
 intro g
 induction g with
 | zero => intro _; show ix R r = _; rw [takes, sumRows]; omega
 | succ g ih =>
  intro h
  have i := ih fun i hi => h i (by omega)
  have hg := h g (by omega)
  rw [dec_succ, roomS_push, takes, sumRows, ← takes, roomF]
  dsimp only
  by_cases h0 : 0 ≤ c g
  ·
   rw [if_pos h0, ix_set _ _ _ _ (by rw [roomS_len]; omega), Int.toNat_natCast]
   by_cases e : c g = (r : Int)
   ·
    rw [if_pos (by omega), if_pos e, show (c g).toNat = r from by omega, i]; omega
   ·
    rw [if_neg (by omega), if_neg e, i]; omega
  ·
   rw [if_neg h0, if_neg (by omega), i]; omega


theorem takes_nonneg {G : List (Int × Int)} (hv : ValuesOk G) (c : Nat → Int) (r : Int) : ∀ n, n ≤ G.length → 0 ≤ takes G c r n := by
 intro n
 induction n with
 | zero => intro _; exact Int.le_refl _
 | succ n ih =>
  intro h
  have := ih (by omega)
  have := (hv n (by omega)).1
  rw [takes, sumRows, ← takes]
  split <;> omega

theorem takes_at {G : List (Int × Int)} (hv : ValuesOk G) (c : Nat → Int) (r : Int) : ∀ n i, n ≤ G.length → i < n → c i = r → takes G c r i + gs G i ≤ takes G c r n := by
 intro n
 induction n with
 | zero => intro i _ h; omega
 | succ n ih =>
  intro i h hi e
  have hg := (hv n (by omega)).1
  rw [takes, takes, sumRows, ← takes, ← takes]
  by_cases h1 : i = n
  ·
   subst h1; rw [if_pos e]; exact Int.le_refl _
  ·
   have := ih i (by omega) (by omega) e
   split <;> omega

/-! ### No permitted packing brings more than bestS -/
section
variable {single : Bool} {R : List Int} {G S : List (Int × Int)} {V : Int}



end

/-! ### And one brings it -/
/-- A choice of runs that can be seated. -/
structure Choice (single : Bool) (R : List Int) (G : List (Int × Int)) (c : Nat → Int) : Prop where
 runs : ∀ i, i < G.length → -1 ≤ c i ∧ c i < R.length
 room : ∀ r, r < R.length → 0 ≤ ix (roomS R G (dec c G.length)) r
 one : single = true → ∀ r, r < R.length → (∃ i, i < G.length ∧ c i = (r : Int)) → ix (roomS R G (dec c G.length)) r ≠ 1


/-- The groups of a choice, one behind the other. -/
def seatAll (G : List (Int × Int)) (c : Nat → Int) : List (Int × Int) := (List.range G.length).map fun (k : Nat) => (c k, if 0 ≤ c k then takes G c (c k) k else 0)

theorem seat_at (G : List (Int × Int)) (c : Nat → Int) (k : Nat) (hk : k < G.length) : gs (seatAll G c) k = c k ∧ gv (seatAll G c) k = if 0 ≤ c k then takes G c (c k) k else 0 := spots_get _ _ _ hk

theorem choice_legal {single : Bool} {R : List Int} {G : List (Int × Int)} {c : Nat → Int} (hv : validS R G = true) (h : Choice single R G c) : LegalP single R G (seatAll G c) (valS G (dec c G.length)) := by
 have hp := (validS_parts hv).2.2
 have hrs := (runsOk_sum R 4000 (by omega) (validS_parts hv).1).2.2
 have hroom : ∀ r, r < R.length → takes G c r G.length ≤ ix R r := fun r hr => by
  have a := h.room r hr
  rw [room_takes R G c r _ (fun i hi => (h.runs i hi).2)] at a
  omega
 have hrow : ∀ (r : Nat), ∀ n, n ≤ G.length → rowSum (rowL G (seatAll G c) r n) = takes G c r n := by
  intro r n
  induction n with
  | zero => intro _; rfl
  | succ n ih =>
   intro hn
   rw [rowL, takes, sumRows, ← takes, ← ih (by omega), (seat_at G c n (by omega)).1]
   split
   ·
    rw [rowSum_append]; simp [rowSum]
   ·
    omega
 refine (legal_iff ..).mpr ⟨hv, by simp [seatAll], fun k hk => ?_, fun r hr => ?_, ?_⟩
 ·
  have hr := h.runs k hk
  unfold SpotOk
  rw [(seat_at G c k hk).1, (seat_at G c k hk).2]
  by_cases h0 : 0 ≤ c k
  ·
   right
   have a := takes_at hp c (c k) G.length k (Nat.le_refl _) hk rfl
   have b := takes_nonneg hp c (c k) k (by omega)
   have d := hroom (c k).toNat (by omega)
   rw [Int.toNat_of_nonneg h0] at d
   unfold badSpot
   rw [if_pos h0]
   omega
  ·
   left; rw [if_neg h0]; omega
 ·
  have hnn := takes_nonneg hp c r G.length (Nat.le_refl _)
  refine rowLegal_nogap (E := takes G c r G.length) (fun x hx => ?_) (rowL_apart G _ r _ (fun i j hij hj ei ej => ?_)) (fun x hx => ?_) hnn (hrow r _ (Nat.le_refl _)) (fun hs => ?_)
  ·
   obtain ⟨k, hk, e, rfl⟩ := rowL_mem G _ r _ x hx
   exact (hp k hk).1.1
  ·
   left
   rw [(seat_at G c i (by omega)).1] at ei
   rw [(seat_at G c j hj).1] at ej
   rw [(seat_at G c i (by omega)).2, (seat_at G c j hj).2, if_pos (by omega), if_pos (by omega), ei, ej]
   exact takes_at hp c r j i (by omega) hij ei
  ·
   obtain ⟨k, hk, e, rfl⟩ := rowL_mem G _ r _ x hx
   dsimp only
   rw [(seat_at G c k hk).1] at e
   rw [(seat_at G c k hk).2, if_pos (by omega), e]
   have a := takes_at hp c r G.length k (Nat.le_refl _) hk e
   have b := takes_nonneg hp c r k (by omega)
   omega
  ·
   by_cases he : ∃ i, i < G.length ∧ c i = (r : Int)
   ·
    left
    have a := h.one hs r hr he
    rw [room_takes R G c r _ (fun i hi => (h.runs i hi).2)] at a
    omega
   ·
    right
    have : ∀ n, n ≤ G.length → takes G c r n = 0 := by
     intro n
     induction n with
     | zero => intro _; rfl
     | succ n ih =>
      intro hn
      rw [takes, sumRows, ← takes, ih (by omega), if_neg (fun e => he ⟨n, by omega, e⟩)]; rfl
    exact this _ (Nat.le_refl _)
 ·
  have : ∀ n, n ≤ G.length → amtV G (taken G (seatAll G c)) (idx n) = valS G (dec c n) := by
   intro n
   induction n with
   | zero => intro _; rfl
   | succ n ih =>
    intro hn
    have hr := h.runs n (by omega)
    rw [idx_succ, amtV_append, ih (by omega), dec_succ, valS_push, valF]
    simp only [amtV, taken, Int.toNat_natCast, (seat_at G c n (by omega)).1]
    by_cases h0 : 0 ≤ c n
    ·
     rw [if_neg (by omega), if_pos h0]; omega
    ·
     rw [if_pos (by omega), if_neg h0]; omega
  exact this _ (Nat.le_refl _)

end Go.Proofs.YthabgljdndbphaaGreatDoor
