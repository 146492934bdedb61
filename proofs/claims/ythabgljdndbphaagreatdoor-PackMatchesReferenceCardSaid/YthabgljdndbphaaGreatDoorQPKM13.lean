/- FitSound, plain: where a step is right, no permitted packing that agrees with what is decided brings more. -/
import Derived.Test.YthabgljdndbphaaGreatDoorQPKM10
import Derived.Test.YthabgljdndbphaaGreatDoorQPKM12

set_option linter.unusedVariables false
set_option linter.unusedSimpArgs false
namespace Go.Proofs.YthabgljdndbphaaGreatDoor
open Go.RowKit

/-- What is decided is so in the packing. -/
def Ext (S es : List (Int × Int)) : Prop := ∀ p ∈ es, gs S p.1.toNat = p.2

/-- Every decision is about another group. -/
def Once (es : List (Int × Int)) : Prop := es.Pairwise (fun p q => p.1 ≠ q.1)

theorem decidedB_iff (x : Int) : ∀ (es : List (Int × Int)), decidedB es x = true ↔ ∃ p ∈ es, p.1 = x := by
 have h : ∀ (es : List (Int × Int)) (i : Nat), (findI x es i).isSome = true ↔ ∃ p ∈ es, p.1 = x := by
  intro es
  induction es with
  | nil => intro i; simp [findI]
  | cons p es ih =>
   intro i
   rw [findI]
   split
   ·
    rename_i e; simp [e]
   ·
    rename_i e; rw [ih]; simp [e]
 exact fun es => h es 0

/-! ### Sums -/
theorem amt_congr (a b : Int → Int) : ∀ (O : List Int), (∀ x ∈ O, a x = b x) → amt a O = amt b O := by
 intro O
 induction O with
 | nil => intro _; rfl
 | cons x O ih => intro h; rw [amt, amt, h x (by simp), ih (fun y hy => h y (by simp [hy]))]

theorem amt_add (a b : Int → Int) (O : List Int) : amt (fun x => a x + b x) O = amt a O + amt b O := by
 induction O with
 | nil => rfl
 | cons x O ih => rw [amt, amt, amt, ih]; omega

theorem amt_le (a b : Int → Int) : ∀ (O : List Int), (∀ x ∈ O, a x ≤ b x) → amt a O ≤ amt b O := by
 intro O
 induction O with
 | nil => intro _; exact Int.le_refl _
 | cons x O ih => intro h; rw [amt, amt]; have := h x (by simp); have := ih (fun y hy => h y (by simp [hy])); omega

theorem amt_zero (O : List Int) : amt (fun _ => 0) O = 0 := by
 induction O with
 | nil => rfl
 | cons x O ih => rw [amt, ih]; rfl


theorem amt_point (F : Int → Int) (g : Int) : ∀ m : Nat, 0 ≤ g → g < m → amt (fun x => if x = g then F x else 0) (idx m) = F g := by
 have h0 : ∀ m : Nat, (m : Int) ≤ g → amt (fun x => if x = g then F x else 0) (idx m) = 0 := by
  intro m hm
  rw [amt_congr _ (fun _ => 0) _ (fun x hx => by have := (mem_idx _ _).mp hx; rw [if_neg (by omega)]), amt_zero]
 intro m
 induction m with
 | zero => intro h1 h2; omega
 | succ m ih =>
  intro h1 h2
  rw [idx_succ, amt_append]
  have e : amt (fun x => if x = g then F x else 0) [(m : Int)] = if (m : Int) = g then F m else 0 := by rw [amt, amt]; omega
  rw [e]
  by_cases hg : (m : Int) = g
  ·
   rw [if_pos hg, h0 m (by omega), hg]; omega
  ·
   rw [if_neg hg, ih h1 (by omega)]; omega

/-- A sum over the decided groups. -/
theorem dec_sum (F : Int → Int) {n m : Nat} : ∀ (es : List (Int × Int)), EsOk n m es → Once es → amt (fun x => if decidedB es x then F x else 0) (idx m) = (es.map (fun p => F p.1)).sum := by
 intro es
 induction es with
 | nil =>
  intro _ _
  rw [amt_congr _ (fun _ => 0) _ (fun x _ => by
   have : decidedB [] x = false := rfl
   rw [this]; rfl), amt_zero]; rfl
 | cons p es ih =>
  intro ho hn
  unfold Once at hn
  rw [List.pairwise_cons] at hn
  have hp := ho p (by simp)
  rw [amt_congr _ (fun x => (if decidedB es x then F x else 0) + (if x = p.1 then F x else 0)) _ (fun x _ => ?_), amt_add, ih (fun q hq => ho q (by simp [hq])) hn.2, amt_point F p.1 m hp.1.1 hp.1.2, List.map_cons, List.sum_cons]
  ·
   omega
  ·
   by_cases hd : decidedB es x = true
   ·
    obtain ⟨q, hq, e⟩ := (decidedB_iff x es).mp hd
    have h1 : decidedB (p :: es) x = true := (decidedB_iff x _).mpr ⟨q, by simp [hq], e⟩
    have h2 : x ≠ p.1 := fun h => hn.1 q hq (by omega)
    rw [if_pos hd, if_pos h1, if_neg h2]; omega
   ·
    by_cases he : x = p.1
    ·
     have h1 : decidedB (p :: es) x = true := (decidedB_iff x _).mpr ⟨p, by simp, he.symm⟩
     rw [if_pos h1, if_neg hd, if_pos he]; omega
    ·
     have h1 : ¬ decidedB (p :: es) x = true := fun h => by
      obtain ⟨q, hq, e⟩ := (decidedB_iff x _).mp h
      rcases List.mem_cons.mp hq with rfl | hq
      ·
       exact he e.symm
      ·
       exact hd ((decidedB_iff x es).mpr ⟨q, hq, e⟩)
     rw [if_neg h1, if_neg hd, if_neg he]; rfl

theorem amt_split (a : Int → Int) (p : Int → Bool) (O : List Int) : amt a O = amt (fun x => if p x then a x else 0) O + amt (fun x => if p x then 0 else a x) O := by
 rw [← amt_add]
 exact amt_congr _ _ _ (fun x _ => by split <;> omega)

/-! ### What is decided, as sums -/

theorem roomS_sum (G : List (Int × Int)) {n m : Nat} (r : Nat) (_hr : r < n) : ∀ (es : List (Int × Int)) (L : List Int), L.length = n → EsOk n m es →
  ix (es.foldl (roomF G) L) r = ix L r - (es.map (fun p => if p.2 = (r : Int) then gs G p.1.toNat else 0)).sum := by
 intro es
 induction es with
 | nil => intro L _ _; simp
 | cons p es ih =>
  intro L hl ho
  have hp := ho p (by simp)
  rw [List.foldl_cons, ih _ (by rw [roomF_length, hl]) (fun q hq => ho q (by simp [hq])), List.map_cons, List.sum_cons, roomF]
  by_cases h0 : 0 ≤ p.2
  ·
   rw [if_pos h0, ix_set _ _ _ _ (by omega)]
   by_cases e : p.2 = (r : Int)
   ·
    rw [if_pos (by omega), if_pos e, show p.2.toNat = r from by omega]; omega
   ·
    rw [if_neg (by omega), if_neg e]; omega
  ·
   rw [if_neg h0, if_neg (by omega)]; omega

theorem usedS_some {n m : Nat} (r : Nat) (hr : r < n) : ∀ (es : List (Int × Int)) (L : List Int), L.length = n → EsOk n m es → ix L r < ix (es.foldl usedF L) r → ∃ p ∈ es, p.2 = (r : Int) := by
 intro es
 induction es with
 | nil => intro L _ _ h; simp at h
 | cons p es ih =>
  intro L hl ho h
  have hp := ho p (by simp)
  by_cases e : p.2 = (r : Int)
  ·
   exact ⟨p, by simp, e⟩
  ·
   rw [List.foldl_cons] at h
   have hs : ix (usedF L p) r = ix L r := by
    unfold usedF
    split
    ·
     rw [ix_set _ _ _ _ (by omega), if_neg (by omega)]
    ·
     rfl
   obtain ⟨q, hq, e⟩ := ih (usedF L p) (by rw [usedF_length, hl]) (fun q hq => ho q (by simp [hq])) (by rw [hs]; exact h)
   exact ⟨q, by simp [hq], e⟩

/-- What a group takes of a run. -/
def inRun (G S : List (Int × Int)) (r : Nat) (x : Int) : Int := if gs S x.toNat = (r : Int) then gs G x.toNat else 0

theorem rowL_amt (G S : List (Int × Int)) (r : Nat) : ∀ n, rowSum (rowL G S r n) = amt (inRun G S r) (idx n) := by
 intro n
 induction n with
 | zero => rfl
 | succ n ih =>
  have e : amt (inRun G S r) [(n : Int)] = inRun G S r n := by rw [amt, amt]; omega
  rw [idx_succ, amt_append, ← ih, e, rowL, inRun, Int.toNat_natCast]
  split
  ·
   rw [rowSum_append]; simp [rowSum]
  ·
   omega

theorem room_ext {G S es : List (Int × Int)} {R : List Int} {m : Nat} (r : Nat) (hr : r < R.length) (ho : EsOk R.length m es) (hn : Once es) (hx : Ext S es) :
  ix (roomS R G es) r = ix R r - amt (fun x => if decidedB es x then inRun G S r x else 0) (idx m) := by
 rw [dec_sum (inRun G S r) es ho hn]
 unfold roomS
 rw [roomS_sum G r hr es R rfl ho]
 congr 2
 refine List.map_congr_left fun p hp => ?_
 rw [inRun, hx p hp]


/-- All groups are decided. -/
theorem all_decided {n m : Nat} {es : List (Int × Int)} (ho : EsOk n m es) (hn : Once es) (hl : es.length = m) : ∀ x, x ∈ idx m → decidedB es x = true := by
 have h1 := dec_sum (fun _ => 1) es ho hn
 have h2 : (es.map (fun _ => (1 : Int))).sum = es.length := by
  clear h1 hl hn ho
  induction es with
  | nil => rfl
  | cons p es ih => rw [List.map_cons, List.sum_cons, ih]; simp; omega
 have h3 : ∀ k : Nat, amt (fun _ => 1) (idx k) = k := by
  intro k
  induction k with
  | zero => rfl
  | succ k ih => rw [idx_succ, amt_append, ih, amt, amt]; omega
 have h4 := amt_split (fun _ => 1) (decidedB es) (idx m)
 rw [h1, h2, h3] at h4
 have h5 : ∀ (O : List Int), amt (fun x => if decidedB es x then (0 : Int) else 1) O = 0 → ∀ x ∈ O, decidedB es x = true := by
  intro O
  induction O with
  | nil => intro _ x hx; simp at hx
  | cons y O ih =>
   intro h x hx
   have hz := amt_nonneg (fun x => if decidedB es x then (0 : Int) else 1) O (fun x _ => by split <;> omega)
   rw [amt] at h
   have hy : decidedB es y = true := by
    cases hd : decidedB es y with
    | true => rfl
    | false => rw [hd] at h; simp only [Bool.false_eq_true, if_false] at h; omega
   rw [hy, if_pos rfl] at h
   rcases List.mem_cons.mp hx with rfl | hx
   ·
    exact hy
   ·
    exact ih (by omega) x hx
 exact h5 (idx m) (by omega)

/-! ### The three kinds -/
theorem chain_gap : ∀ (L : List (Int × Int)) (a e : Int), (∀ x ∈ L, 1 ≤ x.1) → chain true a L = some e → 0 ≤ e - a - rowSum L ∧ e - a - rowSum L ≠ 1 := by
 intro L
 induction L with
 | nil => intro a e _ h; simp [chain] at h; simp [rowSum]; omega
 | cons x L ih =>
  intro a e hs h
  rw [chain] at h
  split at h
  ·
   simp at h
  ·
   rename_i hc
   have i := ih _ e (fun y hy => hs y (by simp [hy])) h
   rw [rowSum]
   simp only [true_and] at hc
   omega

theorem not_one {n : Int} {L : List (Int × Int)} (hs : ∀ x ∈ L, 1 ≤ x.1) (hx : ∀ x ∈ L, x.2 + x.1 ≤ n) (h0 : 0 ≤ n) (hne : L ≠ []) (h : RowLegal true n L) : rowSum L ≠ n - 1 := by
 intro hsum
 obtain ⟨L', hp, _, ho⟩ := h
 unfold rowOk at ho
 cases hc : chain true 0 L' with
 | none => rw [hc] at ho; simp at ho
 | some e =>
  have g := chain_gap L' 0 e (fun x hx => hs x (hp.mem_iff.mp hx)) hc
  have c := chain_end true n L' 0 e (fun x hx' => hx x (hp.mem_iff.mp hx')) h0 hc
  rw [rowSum_perm hp] at g c
  rw [hc] at ho
  have hpos : 0 < rowSum L := by
   cases L with
   | nil => exact absurd rfl hne
   | cons x L =>
    have h1 := hs x (by simp)
    have h2 : ∀ (K : List (Int × Int)), (∀ y ∈ K, 1 ≤ y.1) → 0 ≤ rowSum K := by
     intro K
     induction K with
     | nil => intro _; simp [rowSum]
     | cons y K ih => intro h; rw [rowSum]; have := h y (by simp); have := ih (fun z hz => h z (by simp [hz])); omega
    have := h2 L (fun y hy => hs y (by simp [hy]))
    rw [rowSum]; omega
  simp at ho
  omega





section
variable {single : Bool} {R : List Int} {G S : List (Int × Int)} {V : Int} {es : List (Int × Int)}

theorem und_room (h : LegalP single R G S V) (ho : EsOk R.length G.length es) (hn : Once es) (hx : Ext S es) (r : Nat) (hr : r < R.length) :
  0 ≤ amt (fun x => if decidedB es x then 0 else inRun G S r x) (idx G.length) ∧ amt (fun x => if decidedB es x then 0 else inRun G S r x) (idx G.length) ≤ ix (roomS R G es) r ∧
  rowSum (rowL G S r G.length) = ix R r - ix (roomS R G es) r + amt (fun x => if decidedB es x then 0 else inRun G S r x) (idx G.length) := by
 obtain ⟨hv, hl, hs, hrow, rfl⟩ := (legal_iff ..).mp h
 have hp := validS_parts hv
 have hrs := (runsOk_sum R 4000 (by omega) hp.1).2.2 r hr
 have hsum := rowLegal_sum (by omega) (fun x hx => ?_) (hrow r hr)
 ·
  have h1 := room_ext (G := G) r hr ho hn hx
  have h2 := amt_split (inRun G S r) (decidedB es) (idx G.length)
  rw [rowL_amt] at hsum ⊢
  refine ⟨amt_nonneg _ _ (fun x hx => ?_), by omega, by omega⟩
  have := (mem_idx _ _).mp hx
  have := (hp.2.2 x.toNat (by omega)).1
  unfold inRun
  split
  ·
   omega
  ·
   split <;> omega
 ·
  obtain ⟨k, hk, e, rfl⟩ := rowL_mem G S r _ x hx
  dsimp only
  rcases hs k hk with a | b
  ·
   omega
  ·
   unfold badSpot at b
   rw [show (gs S k).toNat = r from by omega] at b
   omega

theorem fits_sound (h : LegalP single R G S V) (ho : EsOk R.length G.length es) (hn : Once es) (hx : Ext S es) (r : Int) : fitsOk single R G es r = false := by
 cases hf : fitsOk single R G es r with
 | false => rfl
 | true =>
  exfalso
  unfold fitsOk at hf
  split at hf
  ·
   simp at hf
  ·
   obtain ⟨q, rfl⟩ : ∃ q : Nat, r = q := ⟨r.toNat, by omega⟩
   have hq : q < R.length := by omega
   have u := und_room h ho hn hx q hq
   simp only [Int.toNat_natCast, Bool.or_eq_true, Bool.and_eq_true, decide_eq_true_eq] at hf
   rcases hf with hf | ⟨⟨⟨rfl, h1⟩, h2⟩, h3⟩
   ·
    omega
   ·
    obtain ⟨hv, hl, hs, hrow, rfl⟩ := (legal_iff ..).mp h
    have hp := validS_parts hv
    have hrs := (runsOk_sum R 4000 (by omega) hp.1).2.2 q hq
    have hz : amt (fun x => if decidedB es x then 0 else inRun G S q x) (idx G.length) = 0 := by
     rw [amt_congr _ (fun _ => 0) _ (fun x hx => by rw [all_decided ho hn h1 x hx]; rfl), amt_zero]
    obtain ⟨p, hp1, hp2⟩ := usedS_some (m := G.length) q hq es (List.replicate R.length 0) (by simp) ho (by
     have : ix (List.replicate R.length 0) q = 0 := by simp [ix, List.getD, hq]
     rw [this]; exact h2)
    have hg := ho p hp1
    refine not_one (n := ix R q) (L := rowL G S q G.length) (fun x hx => ?_) (fun x hx => ?_) (by omega) (fun he => ?_) (hrow q hq) (by omega)
    ·
     obtain ⟨k, hk, e, rfl⟩ := rowL_mem G S q _ x hx
     exact (hp.2.2 k hk).1.1
    ·
     obtain ⟨k, hk, e, rfl⟩ := rowL_mem G S q _ x hx
     dsimp only
     rcases hs k hk with a | b
     ·
      omega
     ·
      unfold badSpot at b
      rw [show (gs S k).toNat = q from by omega] at b
      omega
    ·
     have e1 := rowL_amt G S q G.length
     rw [he] at e1
     have e2 := amt_le (fun x => if x = p.1 then inRun G S q x else 0) (inRun G S q) (idx G.length) (fun x hx => by
      have := (mem_idx _ _).mp hx
      have := (hp.2.2 x.toNat (by omega)).1
      unfold inRun
      split
      ·
       omega
      ·
       split <;> omega)
     rw [amt_point _ _ _ hg.1.1 hg.1.2, ← e1] at e2
     have := (hp.2.2 p.1.toNat (by omega)).1
     rw [inRun, hx p hp1, if_pos hp2] at e2
     simp only [rowSum] at e2
     omega

end



end Go.Proofs.YthabgljdndbphaaGreatDoor
