/- pack: plain: fit.Check takes the proof; foyerlaw23.PackLimits: plain: how many steps the proof has, and how they are counted. -/
import Derived.Test.YthabgljdndbphaaGreatDoorQPKL16
import Derived.Test.YthabgljdndbphaaGreatDoorQPKL27

set_option linter.unusedVariables false
set_option linter.unusedSimpArgs false
namespace Go.Proofs.YthabgljdndbphaaGreatDoor
set_option linter.unusedSimpArgs false
set_option linter.unusedVariables false

/-- The choices with one more. -/
def updC (c : Nat → Int) (g : Nat) (v : Int) : Nat → Int := fun i => if i = g then v else c i
theorem updC_lt (c : Nat → Int) (g : Nat) (v : Int) {i : Nat} (h : i < g) : updC c g v i = c i := by unfold updC; rw [if_neg (by omega)]
theorem updC_at (c : Nat → Int) (g : Nat) (v : Int) : updC c g v g = v := by unfold updC; rw [if_pos rfl]
theorem dec_upd (c : Nat → Int) (g : Nat) (v : Int) : dec (updC c g v) (g + 1) = dec c g ++ [((g : Int), v)] := by
 rw [dec_succ, updC_at, dec_congr _ c g fun i hi => updC_lt c g v hi]
/-- What the runs are when the groups before g have their choices. -/
structure At (R : List Int) (G : List (Int × Int)) (c : Nat → Int) (g : Nat) (L : List (Int × Bool)) : Prop where
 runs : ∀ i, i < g → -1 ≤ c i ∧ c i < R.length
 rooms : L.map (·.1) = roomS R G (dec c g)
 used : UsedOk R.length (dec c g) (L.map (·.2))
section
variable {R : List Int} {G : List (Int × Int)} {c : Nat → Int} {g : Nat} {L : List (Int × Bool)}
theorem At.len (h : At R G c g L) : L.length = R.length := by
 have := congrArg List.length h.rooms
 rw [roomS_len, List.length_map] at this
 exact this
theorem At.room (h : At R G c g L) {r : Nat} (hr : r < L.length) : ix (roomS R G (dec c g)) r = L[r].1 := by
 rw [← h.rooms]
 unfold ix
 simp [hr]
theorem At.use (h : At R G c g L) {r : Nat} (hr : r < L.length) : L[r].2 = true ↔ ∃ p ∈ dec c g, p.2 = (r : Int) := by
 rw [← h.used.2 r (by rw [← h.len]; exact hr)]
 unfold bx
 simp [hr]
theorem At.sit (h : At R G c g L) {r : Nat} (hr : r < R.length) : At R G (updC c g r) (g + 1) (sitF L r (gs G g)) := by
 have hl := h.len
 obtain ⟨m1, m2⟩ := sit_maps L (q := r) (by omega) (gs G g)
 refine ⟨fun i hi => ?_, ?_, ?_⟩
 ·
  by_cases e : i = g
  ·
   subst e; rw [updC_at]; omega
  ·
   rw [updC_lt _ _ _ (by omega)]; exact h.runs i (by omega)
 ·
  rw [m1, dec_upd, roomS_push, roomF]
  dsimp only
  rw [if_pos (by omega), Int.toNat_natCast, Int.toNat_natCast, h.rooms]
 ·
  rw [m2, dec_upd]
  exact h.used.sit _ r hr
theorem At.out (h : At R G c g L) : At R G (updC c g (-1)) (g + 1) L := by
 refine ⟨fun i hi => ?_, ?_, ?_⟩
 ·
  by_cases e : i = g
  ·
   subst e; rw [updC_at]; omega
  ·
   rw [updC_lt _ _ _ (by omega)]; exact h.runs i (by omega)
 ·
  rw [dec_upd, roomS_push, roomF]
  dsimp only
  rw [if_neg (by omega), h.rooms]
 ·
  rw [dec_upd]
  exact h.used.out _ (-1) (by omega)
theorem At.start (R : List Int) (G : List (Int × Int)) (c : Nat → Int) : At R G c 0 (R.map run0) := by
 refine ⟨fun i hi => absurd hi (Nat.not_lt_zero _), ?_, ?_⟩
 ·
  rw [List.map_map]
  show R.map (fun x => x) = R
  simp
 ·
  have : (R.map run0).map (·.2) = List.replicate R.length false := by
   rw [List.map_map]
   show R.map (fun _ => false) = _
   exact List.map_const' ..
  rw [this]
  exact used_none _
end

section
variable {single : Bool} {R : List Int} {G : List (Int × Int)} {val : Int} {T : List StepT}

end
end Go.Proofs.YthabgljdndbphaaGreatDoor

namespace Go.Proofs.YthabgljdndbphaaGreatDoor
set_option linter.unusedSimpArgs false
set_option linter.unusedVariables false

/-- The steps below a state in which k of n runs are taken and j groups are left, but for its own. -/
def limE (n : Nat) : Nat → Nat → Nat
 | 0, _ => 0
 | j + 1, k => (n + 1) + (n - k) * limE n j (k + 1) + limE n j k
/-- A run that is taken, or one that is not. -/
structure Lim (n k : Nat) (L : List (Int × Bool)) : Prop where
 len : L.length = n
 cnt : L.count (1, true) = k
 all : ∀ x ∈ L, x = (1, true) ∨ x = (3, false)
def limG (m : Nat) : List (Int × Int) := List.replicate m (2, 1)
theorem limG_at {m g : Nat} (h : g < m) : gs (limG m) g = 2 ∧ gv (limG m) g = 1 := by
 unfold gs gv limG
 simp [List.getD_eq_getElem?_getD, List.getElem?_replicate, h]
theorem limG_values (m : Nat) : ValuesOk (limG m) := fun k hk => by
 obtain ⟨h1, h2⟩ := limG_at (m := m) (g := k) (by unfold limG at hk; simpa using hk)
 rw [h1, h2]
 omega
theorem lim_sum : ∀ (L : List (Int × Bool)), (∀ x ∈ L, x = (1, true) ∨ x = (3, false)) → sumL L = 3 * L.length - 2 * L.count (1, true) ∧ L.count (1, true) ≤ L.length
 | [], _ => ⟨rfl, Nat.le_refl _⟩
 | x :: L, h => by
  obtain ⟨h1, h2⟩ := lim_sum L fun y hy => h y (List.mem_cons_of_mem _ hy)
  unfold sumL at *
  rcases h x (List.mem_cons_self ..) with rfl | rfl
  ·
   rw [List.count_cons_self, List.map_cons, List.sum_cons, List.length_cons, h1]
   omega
  ·
   rw [List.count_cons_of_ne (by decide), List.map_cons, List.sum_cons, List.length_cons, h1]
   omega
theorem Lim.sit {n k : Nat} {L : List (Int × Bool)} (h : Lim n k L) {r : Nat} (hr : r < L.length) (h3 : L[r] = (3, false)) : Lim n (k + 1) (sitF L r 2) := by
 refine ⟨by rw [sit_len]; exact h.len, ?_, fun x hx => ?_⟩
 ·
  unfold sitF
  rw [List.count_set hr, h3, h.cnt]
  simp [hr, h3]
 ·
  unfold sitF at hx
  rcases List.mem_or_eq_of_mem_set hx with hx | hx
  ·
   exact h.all x hx
  ·
   left
   rw [hx]
   simp [hr, h3]
theorem Lim.none {n k : Nat} {L : List (Int × Bool)} (h : Lim n k L) : L.findIdx? negP = Option.none := by
 rw [List.findIdx?_eq_none_iff]
 intro x hx
 rcases h.all x hx with rfl | rfl <;> rfl
theorem Lim.neg {L : List (Int × Bool)} {r : Nat} (hr : r < L.length) (h1 : L[r] = (1, true)) : ∃ i, (sitF L r 2).findIdx? negP = some i := by
 cases e : (sitF L r 2).findIdx? negP with
 | some i => exact ⟨i, rfl⟩
 | none =>
  exfalso
  have := (List.findIdx?_eq_none_iff.1 e) ((sitF L r 2)[r]'(by rw [sit_len]; exact hr)) (List.getElem_mem _)
  unfold sitF negP at this
  simp [hr, h1] at this
theorem lim_rest {m g : Nat} (hm : m ≤ 8) (hg : g < m) {L : List (Int × Bool)} (h0 : 1 ≤ sumL L) (h1 : sumL L ≤ 4000) : 0 < restB (limG m) g L := by
 have hl : (limG m).length = m := by simp [limG]
 rw [restB_eq (limG_values m) (by omega) (by omega) h1]
 have hr : (rankedL ((limG m).drop g)).length = m - g := by rw [(rankedL_ok _).1.length_eq]; unfold idx; simp [hl]
 have hall : ∀ x ∈ rankedL ((limG m).drop g), gs ((limG m).drop g) x.toNat = 2 ∧ gv ((limG m).drop g) x.toNat = 1 := fun x hx => by
  have h := (mem_ranked _ _).1 hx
  rw [List.length_drop, hl] at h
  obtain ⟨a1, a2⟩ := gs_drop (limG m) g x.toNat
  obtain ⟨b1, b2⟩ := limG_at (m := m) (g := g + x.toNat) (by omega)
  rw [a1, a2, b1, b2]
  exact ⟨rfl, rfl⟩
 generalize rankedL ((limG m).drop g) = O at *
 cases O with
 | nil => simp at hr; omega
 | cons x O =>
  obtain ⟨e1, e2⟩ := hall x (List.mem_cons_self ..)
  rw [fillS, if_neg (by decide), e1, e2]
  have := (fillS_bounds ((limG m).drop g) (fun _ => false) O (sumL L - min 2 (sumL L)) (by omega) (fun y hy => by
   obtain ⟨c1, c2⟩ := hall y (List.mem_cons_of_mem _ hy)
   rw [c1, c2]
   omega)).1
  omega
theorem lim_pack {m n : Nat} : ∀ (j g k : Nat) (L : List (Int × Bool)), g + j = m → Lim n k L → packF true (limG m) j g L = if k = 0 then 0 else -1
 | 0, g, k, L, hg, hl => by
  rw [packF_zero]
  by_cases hk : k = 0
  ·
   rw [if_pos hk, if_neg]
   rintro ⟨-, x, hx, h1, h2⟩
   have := hl.cnt
   rw [hk, List.count_eq_zero] at this
   rcases hl.all x hx with rfl | rfl
   ·
    exact this hx
   ·
    exact absurd h1 (by decide)
  ·
   have hmem : (1, true) ∈ L := List.count_pos_iff.1 (by have := hl.cnt; omega)
   rw [if_neg hk, if_pos ⟨rfl, (1, true), hmem, rfl, rfl⟩]
 | j + 1, g, k, L, hg, hl => by
  obtain ⟨s1, s2, s3⟩ := packF_spec true (limG m) j g L
  obtain ⟨e1, e2⟩ := limG_at (m := m) (g := g) (by omega)
  rcases s3 with e | ⟨q, hq, q1, q2, q3⟩
  ·
   rw [e]
   exact lim_pack j (g + 1) k L (by omega) hl
  ·
   exfalso
   rcases hl.all L[q] (List.getElem_mem hq) with e | e
   ·
    rw [e, e1] at q1
    exact absurd q1 (by decide)
   ·
    rw [e1] at q2
    rw [lim_pack j (g + 1) (k + 1) _ (by omega) (hl.sit hq e), if_neg (by omega)] at q2
    exact absurd q2 (by decide)
theorem lim_steps {m n : Nat} (hm : m ≤ 8) (hn4 : 4 ≤ n) (hn : n ≤ 40) : ∀ (j g k : Nat) (L : List (Int × Bool)) (base : Nat), g + j = m → Lim n k L → (stpF (limG m) 0 j g L (2 * k) base).length = 1 + limE n j k
 | 0, g, k, L, base, hg, hl => by
  rw [stpF, stpHead, hl.none]
  dsimp only
  split <;> rfl
 | j + 1, g, k, L, base, hg, hl => by
  obtain ⟨c1, c2⟩ := lim_sum L hl.all
  rw [hl.len, hl.cnt] at c1 c2
  obtain ⟨e1, e2⟩ := limG_at (m := m) (g := g) (by omega)
  have hrest := lim_rest hm (show g < m by omega) (L := L) (by omega) (by omega)
  rw [stp_succ hl.none (by omega), List.length_cons]
  have key : ∀ r, r ≤ n → (kidsU (limG m) 0 j g L (2 * k) base r).1.length + (L.take r).count (1, true) * limE n j (k + 1) = r + r * limE n j (k + 1) ∧ (L.take r).count (1, true) ≤ r := by
   intro r
   induction r with
   | zero => intro _; simp [kidsU_zero]
   | succ r ih =>
    intro hr
    obtain ⟨i1, i2⟩ := ih (by omega)
    have hrl : r < L.length := by rw [hl.len]; omega
    rw [kidsU_run hrl, List.length_append, ← List.take_append_getElem hrl, List.count_append, e1, e2]
    generalize (kidsU (limG m) 0 j g L (2 * k) base r).1.length = A at *
    rcases hl.all L[r] (List.getElem_mem hrl) with e | e
    ·
     obtain ⟨i, hi⟩ := Lim.neg hrl e
     rw [stp_neg hi, e]
     generalize (L.take r).count (1, true) = B at *
     simp only [List.length_singleton, List.count_singleton_self, Nat.add_mul, Nat.one_mul]
     omega
    ·
     have hs := hl.sit hrl e
     rw [show (2 * (k : Int) + 2 * 1) = 2 * ((k + 1 : Nat) : Int) from by omega, lim_steps hm hn4 hn j (g + 1) (k + 1) _ _ (by omega) hs, e]
     generalize (L.take r).count (1, true) = B at *
     rw [show ([(3, false)] : List (Int × Bool)).count (1, true) = 0 from by decide]
     simp only [Nat.add_mul, Nat.one_mul, Nat.add_zero]
     omega
  have h := key n (Nat.le_refl _)
  rw [List.take_of_length_le (by rw [hl.len]; omega), hl.cnt] at h
  rw [kidsU_none, List.length_append, lim_steps hm hn4 hn j (g + 1) k L _ (by omega) hl, hl.len, limE, Nat.sub_mul]
  have : k * limE n j (k + 1) ≤ n * limE n j (k + 1) := Nat.mul_le_mul c2 (Nat.le_refl _)
  omega

/-! ### Counting them -/
def sumN (f : Nat → Nat) : Nat → Nat
 | 0 => 0
 | k + 1 => sumN f k + f k
/-- How many lists of decisions there are with one group more. -/
def nxS (n : Nat) (S : Nat → Nat) (k : Nat) : Nat := S k + if k = 0 then 0 else S (k - 1) * (n - (k - 1))
def limS (n : Nat) : Nat → Nat → Nat
 | 0, k => if k = 0 then 1 else 0
 | g + 1, k => nxS n (limS n g) k
def limT (n : Nat) : Nat → Nat
 | 0 => 1
 | g + 1 => limT n g + sumN (limS n g) (g + 1) * (n + 1)
theorem limS_zero (n : Nat) : ∀ g k, g < k → limS n g k = 0
 | 0, k, h => by rw [limS, if_neg (by omega)]
 | g + 1, k, h => by rw [limS, nxS, limS_zero n g k (by omega), if_neg (by omega), limS_zero n g (k - 1) (by omega), Nat.zero_mul]
theorem sumN_shift (n : Nat) (S E F : Nat → Nat) : ∀ K, sumN (fun k => nxS n S k * E k) (K + 1) = sumN (fun k => S k * (E k + (n - k) * E (k + 1))) K + S K * E K
 | 0 => by simp [sumN, nxS]
 | K + 1 => by
  rw [sumN, sumN_shift n S E F K, sumN]
  simp only [nxS, if_neg (Nat.succ_ne_zero K), Nat.add_sub_cancel, Nat.mul_add, Nat.add_mul, Nat.mul_assoc]
  omega
theorem sumN_add (f g : Nat → Nat) : ∀ K, sumN (fun k => f k + g k) K = sumN f K + sumN g K
 | 0 => rfl
 | K + 1 => by rw [sumN, sumN, sumN, sumN_add f g K]; omega
theorem sumN_mul (f : Nat → Nat) (c : Nat) : ∀ K, sumN (fun k => f k * c) K = sumN f K * c
 | 0 => by simp [sumN]
 | K + 1 => by rw [sumN, sumN, sumN_mul f c K, Nat.add_mul]
theorem sumN_le (f : Nat → Nat) {k K : Nat} (h : k ≤ K) : sumN f k ≤ sumN f K := by
 induction K with
 | zero =>
  obtain rfl : k = 0 := by omega
  exact Nat.le_refl _
 | succ K ih =>
  by_cases e : k = K + 1
  ·
   rw [e]; exact Nat.le_refl _
  ·
   rw [sumN]
   have := ih (by omega)
   omega
theorem sumN_one (f : Nat → Nat) {k K : Nat} (h : k < K) : f k ≤ sumN f K := by
 have := sumN_le f (show k + 1 ≤ K by omega)
 rw [sumN] at this
 omega
theorem lim_count {n m : Nat} : ∀ (g j : Nat), g + j = m → limT n g + sumN (fun k => limS n g k * limE n j k) (g + 1) = 1 + limE n m 0
 | 0, j, h => by
  obtain rfl : j = m := by omega
  simp [sumN, limT, limS]
 | g + 1, j, h => by
  have ih := lim_count (n := n) (m := m) g (j + 1) (by omega)
  have hs := sumN_shift n (limS n g) (limE n j) (limE n j) (g + 1)
  rw [limS_zero n g (g + 1) (by omega), Nat.zero_mul, Nat.add_zero] at hs
  have e1 : (fun k => limS n g k * limE n (j + 1) k) = fun k => limS n g k * (n + 1) + limS n g k * (limE n j k + (n - k) * limE n j (k + 1)) := by
   funext k
   rw [← Nat.mul_add, limE, Nat.add_comm (limE n j k), Nat.add_assoc]
  rw [e1, sumN_add, sumN_mul] at ih
  rw [limT]
  show limT n g + sumN (limS n g) (g + 1) * (n + 1) + sumN (fun k => nxS n (limS n g) k * limE n j k) (g + 1 + 1) = _
  rw [hs]
  omega
/-- All that is counted on the way is not more than the whole. -/
theorem limT_le {n m g k : Nat} (hg : g < m) (hk : k ≤ g + 1) : limT n g + sumN (limS n g) k * (n + 1) ≤ 1 + limE n m 0 := by
 have h1 := lim_count (n := n) (m := m) (g + 1) (m - (g + 1)) (by omega)
 rw [limT] at h1
 have h2 := Nat.mul_le_mul (sumN_le (limS n g) hk) (Nat.le_refl (n + 1))
 omega
theorem limT_end {n m : Nat} : limT n m = 1 + limE n m 0 := by
 have h := lim_count (n := n) (m := m) m 0 (by omega)
 have : sumN (fun k => limS n m k * limE n 0 k) (m + 1) = 0 := by
  have e : (fun k => limS n m k * limE n 0 k) = fun k => limS n m k * 0 := rfl
  rw [e, sumN_mul, Nat.mul_zero]
 omega
theorem limE_cap (n : Nat) (hn : n ≤ 40) : ∀ j k, limE n j k ≤ 41 ^ (j + 1) - 41
 | 0, k => Nat.le_refl _
 | j + 1, k => by
  have h1 := limE_cap n hn j (k + 1)
  have h2 := limE_cap n hn j k
  have h3 : (n - k) * limE n j (k + 1) ≤ 40 * (41 ^ (j + 1) - 41) := Nat.mul_le_mul (by omega) h1
  have h4 : 41 ≤ 41 ^ (j + 1) := by rw [Nat.pow_succ]; exact Nat.le_mul_of_pos_left _ (Nat.pow_pos (by omega))
  rw [limE, Nat.pow_succ]
  generalize 41 ^ (j + 1) = X at *
  omega
theorem lim_small {n m : Nat} (hn : n ≤ 40) (hm : m ≤ 8) : 1 + limE n m 0 ≤ 400000000000000 := by
 have h := limE_cap n hn m 0
 have h2 : 41 ^ (m + 1) ≤ 41 ^ 9 := Nat.pow_le_pow_right (by omega) (by omega)
 have h3 : (41 : Nat) ^ 9 = 327381934393961 := by decide
 omega
theorem limS_small {n m g k : Nat} (hn : n ≤ 40) (hm : m ≤ 8) (hg : g < m) : limS n g k ≤ 400000000000000 := by
 by_cases h : g < k
 ·
  rw [limS_zero n g k h]; omega
 ·
  have h1 := limT_le (n := n) hg (Nat.le_refl (g + 1))
  have h2 := sumN_one (limS n g) (show k < g + 1 by omega)
  have h3 := lim_small hn hm
  have h4 : sumN (limS n g) (g + 1) ≤ sumN (limS n g) (g + 1) * (n + 1) := Nat.le_mul_of_pos_right _ (by omega)
  omega
/-- The row of the next lists, behind the first k. -/
def nxA (n : Nat) (S : Nat → Nat) (k i : Nat) : Nat := (if i < k then S i else 0) + if i = 0 ∨ k < i then 0 else S (i - 1) * (n - (i - 1))
theorem nxA_zero (n : Nat) (S : Nat → Nat) (i : Nat) : nxA n S 0 i = 0 := by
 unfold nxA
 rw [if_neg (by omega), if_pos (by omega)]
theorem nxA_one (n : Nat) (S : Nat → Nat) (k i : Nat) : nxA n S (k + 1) i = if i = k then nxA n S k k + S k else if i = k + 1 then S k * (n - k) else nxA n S k i := by
 unfold nxA
 by_cases h1 : i = k
 ·
  subst h1
  by_cases h0 : i = 0
  ·
   subst h0; simp
  ·
   have e : ¬ i + 1 < i := by omega
   simp [h0, e]
   omega
 ·
  rw [if_neg h1]
  by_cases h2 : i = k + 1
  ·
   subst h2
   rw [if_neg (by omega), if_neg (by omega), if_pos rfl]
   simp
  ·
   rw [if_neg h2]
   by_cases h3 : i < k
   ·
    rw [if_pos (by omega), if_pos h3]
    by_cases h0 : i = 0
    ·
     rw [if_pos (.inl h0), if_pos (.inl h0)]
    ·
     rw [if_neg (by omega), if_neg (by omega)]
   ·
    rw [if_neg (by omega), if_neg h3, if_pos (by omega), if_pos (by omega)]
theorem nxA_top (n : Nat) (S : Nat → Nat) (k : Nat) : nxA n S k (k + 1) = 0 := by
 unfold nxA
 rw [if_neg (by omega), if_pos (by omega)]
theorem nxA_end {n g : Nat} (i : Nat) : nxA n (limS n g) (g + 1) i = limS n (g + 1) i := by
 unfold nxA
 show _ = nxS n (limS n g) i
 unfold nxS
 by_cases h : i < g + 1
 ·
  rw [if_pos h]
  by_cases h0 : i = 0
  ·
   rw [if_pos (.inl h0), if_pos h0]
  ·
   rw [if_neg (by omega), if_neg h0]
 ·
  rw [if_neg h, limS_zero n g i (by omega)]
  by_cases h1 : i = g + 1
  ·
   rw [if_neg (by omega), if_neg (by omega)]
  ·
   rw [if_pos (by omega), if_neg (by omega), limS_zero n g (i - 1) (by omega), Nat.zero_mul]
end Go.Proofs.YthabgljdndbphaaGreatDoor
