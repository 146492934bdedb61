/- FitExact, plain: bestS is the greatest value of a permitted packing, and the steps of Prove are right exactly for it. -/
import Derived.Test.YthabgljdndbphaaGreatDoorQPKB16
import Derived.Test.YthabgljdndbphaaGreatDoorQPKB17
import Derived.Test.YthabgljdndbphaaGreatDoorQPKB19
import Derived.Test.YthabgljdndbphaaGreatDoorQPKB20

set_option linter.unusedVariables false
set_option linter.unusedSimpArgs false
namespace Go.Proofs.YthabgljdndbphaaGreatDoor
open Go.RowKit

theorem bestLoop_out {go : List Int → List Bool → Int} {s v : Int} {left : List Int} {used : List Bool} {out : Int} : ∀ r, out ≤ bestLoop go s v left used out r := by
 intro r
 induction r with
 | zero => exact Int.le_refl _
 | succ r ih =>
  rw [bestLoop]
  split
  ·
   exact ih
  ·
   split
   ·
    omega
   ·
    exact ih

theorem bestLoop_at {go : List Int → List Bool → Int} {s v : Int} {left : List Int} {used : List Bool} {out : Int} (q : Nat) (hs : s ≤ ix left q) (hg : 0 ≤ go (left.set q (ix left q - s)) (used.set q true)) :
  ∀ r, q < r → go (left.set q (ix left q - s)) (used.set q true) + s * v ≤ bestLoop go s v left used out r := by
 intro r
 induction r with
 | zero => intro h; omega
 | succ r ih =>
  intro h
  rw [bestLoop]
  by_cases e : q = r
  ·
   subst e
   rw [if_neg (by omega), if_pos hg]
   omega
  ·
   have := ih (by omega)
   split
   ·
    exact this
   ·
    split <;> omega


/-! ### Choices -/
/-- The decisions about the first n groups. -/
def dec (c : Nat → Int) (n : Nat) : List (Int × Int) := (List.range n).map fun (i : Nat) => ((i : Int), c i)

theorem dec_succ (c : Nat → Int) (n : Nat) : dec c (n + 1) = dec c n ++ [((n : Int), c n)] := by simp [dec, List.range_succ]

theorem dec_length (c : Nat → Int) (n : Nat) : (dec c n).length = n := by simp [dec]

theorem mem_dec (c : Nat → Int) (n : Nat) (p : Int × Int) : p ∈ dec c n ↔ ∃ i, i < n ∧ p = ((i : Int), c i) := by
 unfold dec
 rw [List.mem_map]
 exact ⟨fun ⟨i, hi, e⟩ => ⟨i, List.mem_range.mp hi, e.symm⟩, fun ⟨i, hi, e⟩ => ⟨i, List.mem_range.mpr hi, e.symm⟩⟩

theorem dec_congr (c c' : Nat → Int) (n : Nat) (h : ∀ i, i < n → c i = c' i) : dec c n = dec c' n := by
 unfold dec
 exact List.map_congr_left fun i hi => by rw [h i (List.mem_range.mp hi)]

theorem dec_once (c : Nat → Int) : ∀ n, Once (dec c n) := by
 intro n
 induction n with
 | zero => exact List.Pairwise.nil
 | succ n ih =>
  rw [dec_succ]
  unfold Once at *
  rw [List.pairwise_append]
  refine ⟨ih, List.pairwise_singleton .., fun p hp q hq => ?_⟩
  obtain ⟨i, hi, rfl⟩ := (mem_dec c n p).mp hp
  rw [List.mem_singleton.mp hq]
  dsimp only
  omega

theorem dec_ok {c : Nat → Int} {n m g : Nat} (hg : g ≤ m) (hc : ∀ i, i < g → -1 ≤ c i ∧ c i < n) : EsOk n m (dec c g) := by
 intro p hp
 obtain ⟨i, hi, rfl⟩ := (mem_dec c g p).mp hp
 have := hc i hi
 dsimp only
 omega

/-- Which runs somebody sits in. -/
def UsedOk (n : Nat) (es : List (Int × Int)) (used : List Bool) : Prop := used.length = n ∧ ∀ r, r < n → (bx used r = true ↔ ∃ p ∈ es, p.2 = (r : Int))

theorem UsedOk.sit {n : Nat} {es : List (Int × Int)} {used : List Bool} (h : UsedOk n es used) (g : Int) (q : Nat) (hq : q < n) : UsedOk n (es ++ [(g, (q : Int))]) (used.set q true) := by
 refine ⟨by rw [List.length_set]; exact h.1, fun r hr => ?_⟩
 rw [bx_set _ _ _ _ (by rw [h.1]; exact hq)]
 by_cases e : q = r
 ·
  rw [if_pos e]
  exact ⟨fun _ => ⟨(g, (q : Int)), by simp, by dsimp only; omega⟩, fun _ => rfl⟩
 ·
  rw [if_neg e, h.2 r hr]
  constructor
  ·
   rintro ⟨p, hp, hpr⟩; exact ⟨p, by simp [hp], hpr⟩
  ·
   rintro ⟨p, hp, hpr⟩
   rcases List.mem_append.mp hp with hp | hp
   ·
    exact ⟨p, hp, hpr⟩
   ·
    rw [List.mem_singleton.mp hp] at hpr; dsimp only at hpr; omega

theorem UsedOk.out {n : Nat} {es : List (Int × Int)} {used : List Bool} (h : UsedOk n es used) (g v : Int) (hv : v < 0) : UsedOk n (es ++ [(g, v)]) used := by
 refine ⟨h.1, fun r hr => ?_⟩
 rw [h.2 r hr]
 constructor
 ·
  rintro ⟨p, hp, hpr⟩; exact ⟨p, by simp [hp], hpr⟩
 ·
  rintro ⟨p, hp, hpr⟩
  rcases List.mem_append.mp hp with hp | hp
  ·
   exact ⟨p, hp, hpr⟩
  ·
   rw [List.mem_singleton.mp hp] at hpr; dsimp only at hpr; omega


theorem bx_rep (m k : Nat) : bx (List.replicate m false) k = false := by
 unfold bx
 simp only [List.getD]
 by_cases h : k < m
 ·
  simp [h]
 ·
  rw [List.getElem?_eq_none (by simpa using h)]; rfl

theorem used_none (n : Nat) : UsedOk n [] (List.replicate n false) := by
 refine ⟨by simp, fun r hr => ?_⟩
 rw [bx_rep]
 exact ⟨fun h => by simp at h, fun ⟨p, hp, _⟩ => by simp at hp⟩

theorem usedS_pos (n r : Nat) (_hr : r < n) : ∀ (es : List (Int × Int)) (L : List Int), L.length = n → (∀ p ∈ es, p.2 < n) → 0 ≤ ix L r → ix L r ≤ ix (es.foldl usedF L) r ∧ ((∃ p ∈ es, p.2 = (r : Int)) → ix L r < ix (es.foldl usedF L) r) := by
 intro es
 induction es with
 | nil => intro L _ _ _; exact ⟨Int.le_refl _, fun ⟨p, hp, _⟩ => by simp at hp⟩
 | cons p es ih =>
  intro L hl hb h0
  have hp := hb p (by simp)
  have hs : ix (usedF L p) r = if p.2 = (r : Int) then ix L r + 1 else ix L r := by
   unfold usedF
   by_cases h : 0 ≤ p.2
   ·
    rw [if_pos h, ix_set _ _ _ _ (by omega)]
    by_cases e : p.2 = (r : Int)
    ·
     rw [if_pos (by omega), if_pos e, show p.2.toNat = r from by omega]
    ·
     rw [if_neg (by omega), if_neg e]
   ·
    rw [if_neg h, if_neg (by omega)]
  have i := ih (usedF L p) (by rw [usedF_length, hl]) (fun q hq => hb q (by simp [hq])) (by rw [hs]; split <;> omega)
  rw [List.foldl_cons]
  rw [hs] at i
  refine ⟨by have := i.1; split at this <;> omega, fun ⟨q, hq, e⟩ => ?_⟩
  rcases List.mem_cons.mp hq with rfl | hq
  ·
   have := i.1; rw [if_pos e] at this; omega
  ·
   have := i.2 ⟨q, hq, e⟩; split at this <;> omega

theorem usedS_iff {n m r : Nat} {es : List (Int × Int)} (hr : r < n) (ho : EsOk n m es) : 0 < ix (usedS n es) r ↔ ∃ p ∈ es, p.2 = (r : Int) := by
 have z : ix (List.replicate n 0) r = 0 := by simp [ix, List.getD, hr]
 constructor
 ·
  intro h
  exact usedS_some (m := m) r hr es (List.replicate n 0) (by simp) ho (by rw [z]; exact h)
 ·
  intro h
  have := (usedS_pos n r hr es (List.replicate n 0) (by simp) (fun p hp => (ho p hp).2.2) (by omega)).2 h
  rw [z] at this
  exact this

theorem roomS_len (G : List (Int × Int)) (es : List (Int × Int)) (R : List Int) : (roomS R G es).length = R.length := by
 unfold roomS
 have : ∀ (es : List (Int × Int)) (L : List Int), (es.foldl (roomF G) L).length = L.length := by
  intro es
  induction es with
  | nil => intro L; rfl
  | cons p es ih => intro L; rw [List.foldl_cons, ih, roomF_length]
 exact this es R

/-- What the first n groups take of run r. -/
def takes (G : List (Int × Int)) (c : Nat → Int) (r : Int) (n : Nat) : Int := sumRows (fun i => if c i = r then gs G i else 0) n

theorem room_takes (R : List Int) (G : List (Int × Int)) (c : Nat → Int) (r : Nat) : ∀ g, (∀ i, i < g → c i < R.length) → ix (roomS R G (dec c g)) r = ix R r - takes G c r g := by
 intro g
 induction g with
 | zero => intro _; show ix R r = _; rw [takes, sumRows]; omega
 | succ g ih =>
  intro h
  have i := ih fun i hi => h i (by omega)
  have hg := h g (by omega)
  rw [dec_succ, roomS_push, takes, sumRows, ← takes, roomF]
  dsimp only
  by_cases h0 : 0 ≤ c g
  ·
   rw [if_pos h0, ix_set _ _ _ _ (by rw [roomS_len]; omega), Int.toNat_natCast]
   by_cases e : c g = (r : Int)
   ·
    rw [if_pos (by omega), if_pos e, show (c g).toNat = r from by omega, i]; omega
   ·
    rw [if_neg (by omega), if_neg e, i]; omega
  ·
   rw [if_neg h0, if_neg (by omega), i]; omega


theorem takes_nonneg {G : List (Int × Int)} (hv : ValuesOk G) (c : Nat → Int) (r : Int) : ∀ n, n ≤ G.length → 0 ≤ takes G c r n := by
 intro n
 induction n with
 | zero => intro _; exact Int.le_refl _
 | succ n ih =>
  intro h
  have := ih (by omega)
  have := (hv n (by omega)).1
  rw [takes, sumRows, ← takes]
  split <;> omega


/-! ### No permitted packing brings more than bestS -/
section
variable {single : Bool} {R : List Int} {G S : List (Int × Int)} {V : Int}

theorem legal_runs (h : LegalP single R G S V) (i : Nat) (hi : i < G.length) : -1 ≤ gs S i ∧ gs S i < R.length := by
 rcases ((legal_iff ..).mp h).2.2.1 i hi with a | b
 ·
  omega
 ·
  unfold badSpot at b; omega

theorem best_upper (h : LegalP single R G S V) : ∀ (k g : Nat) (used : List Bool), g + k = G.length → UsedOk R.length (dec (gs S) g) used →
  0 ≤ bestF single G k g (roomS R G (dec (gs S) g)) used ∧ V ≤ valS G (dec (gs S) g) + bestF single G k g (roomS R G (dec (gs S) g)) used := by
 have hru := legal_runs h
 have hok : ∀ g, g ≤ G.length → EsOk R.length G.length (dec (gs S) g) := fun g hg => dec_ok hg (fun i hi => hru i (by omega))
 have hext : ∀ g, Ext S (dec (gs S) g) := fun g p hp => by
  obtain ⟨i, _, rfl⟩ := (mem_dec _ g p).mp hp
  simp
 intro k
 induction k with
 | zero =>
  intro g used hg hu
  have e : g = G.length := by omega
  have hnot : ¬ (single = true ∧ ∃ r, r < (roomS R G (dec (gs S) g)).length ∧ oneLeft (roomS R G (dec (gs S) g)) used r = true) := by
   rintro ⟨rfl, r, hr, h1⟩
   rw [roomS_len] at hr
   unfold oneLeft at h1
   rw [Bool.and_eq_true, decide_eq_true_eq] at h1
   have hf := fits_sound h (hok g (by omega)) (dec_once _ g) (hext g) r
   unfold fitsOk at hf
   rw [if_neg (by omega), Int.toNat_natCast, dec_length, e] at hf
   have hup := (usedS_iff hr (hok g (by omega))).mpr ((hu.2 r hr).mp h1.1)
   rw [e] at hup h1
   simp [hup, h1.2] at hf
  rw [bestF, if_neg hnot]
  refine ⟨Int.le_refl _, ?_⟩
  rw [val_ext (hok g (by omega)) (dec_once _ g) (hext g), ← ((legal_iff ..).mp h).2.2.2.2, amtV_amt]
  refine Int.le_of_eq ?_
  rw [Int.add_zero]
  refine amt_congr _ _ _ (fun x hx => ?_)
  rw [all_decided (hok g (by omega)) (dec_once _ g) (by rw [dec_length]; exact e) x hx, if_pos rfl]
 | succ k ih =>
  intro g used hg hu
  have hru' := hru g (by omega)
  rw [bestF]
  by_cases h0 : gs S g = -1
  ·
   have i := ih (g + 1) used (by omega) (by rw [dec_succ]; exact hu.out _ _ (by omega))
   rw [dec_succ, roomS_push, valS_push, roomF, valF] at i
   dsimp only at i
   rw [if_neg (by omega), if_neg (by omega)] at i
   have l := bestLoop_out (go := bestF single G k (g + 1)) (s := gs G g) (v := gv G g) (left := roomS R G (dec (gs S) g)) (used := used) (out := bestF single G k (g + 1) (roomS R G (dec (gs S) g)) used) (roomS R G (dec (gs S) g)).length
   omega
  ·
   obtain ⟨q, hq⟩ : ∃ q : Nat, gs S g = q := ⟨(gs S g).toNat, by omega⟩
   have hqn : q < R.length := by omega
   have hs := (und_room h (hok (g + 1) (by omega)) (dec_once _ (g + 1)) (hext (g + 1)) q hqn)
   have i := ih (g + 1) (used.set q true) (by omega) (by rw [dec_succ, hq]; exact hu.sit _ _ hqn)
   rw [dec_succ, roomS_push, hq, roomF] at hs
   rw [dec_succ, roomS_push, valS_push, hq, roomF, valF] at i
   dsimp only at i hs
   rw [if_pos (by omega)] at hs
   rw [if_pos (by omega), if_pos (by omega)] at i
   simp only [Int.toNat_natCast] at i hs
   rw [ix_set _ _ _ _ (by rw [roomS_len]; exact hqn), if_pos rfl] at hs
   have l := bestLoop_at (go := bestF single G k (g + 1)) (s := gs G g) (v := gv G g) (left := roomS R G (dec (gs S) g)) (used := used) (out := bestF single G k (g + 1) (roomS R G (dec (gs S) g)) used) q (by omega) i.1 (roomS R G (dec (gs S) g)).length (by rw [roomS_len]; exact hqn)
   have := i.1
   have hp := ((validS_parts ((legal_iff ..).mp h).1).2.2 g (by omega))
   have : 0 ≤ gs G g * gv G g := Int.mul_nonneg (by omega) (by omega)
   omega

theorem best_most (h : LegalP single R G S V) : 0 ≤ bestS single R G ∧ V ≤ bestS single R G := by
 have := best_upper h G.length 0 (List.replicate R.length false) (by omega) (used_none _)
 have e : valS G (dec (gs S) 0) = 0 := rfl
 rw [e] at this
 have e2 : roomS R G (dec (gs S) 0) = R := rfl
 rw [e2] at this
 unfold bestS
 omega
end

/-! ### And one brings it -/
/-- A choice of runs that can be seated. -/
structure Choice (single : Bool) (R : List Int) (G : List (Int × Int)) (c : Nat → Int) : Prop where
 runs : ∀ i, i < G.length → -1 ≤ c i ∧ c i < R.length
 room : ∀ r, r < R.length → 0 ≤ ix (roomS R G (dec c G.length)) r
 one : single = true → ∀ r, r < R.length → (∃ i, i < G.length ∧ c i = (r : Int)) → ix (roomS R G (dec c G.length)) r ≠ 1


/-- The groups of a choice, one behind the other. -/
def seatAll (G : List (Int × Int)) (c : Nat → Int) : List (Int × Int) := (List.range G.length).map fun (k : Nat) => (c k, if 0 ≤ c k then takes G c (c k) k else 0)

theorem seat_at (G : List (Int × Int)) (c : Nat → Int) (k : Nat) (hk : k < G.length) : gs (seatAll G c) k = c k ∧ gv (seatAll G c) k = if 0 ≤ c k then takes G c (c k) k else 0 := spots_get _ _ _ hk


end Go.Proofs.YthabgljdndbphaaGreatDoor
