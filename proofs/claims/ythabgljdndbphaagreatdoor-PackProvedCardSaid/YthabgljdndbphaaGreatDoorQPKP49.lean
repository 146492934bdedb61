/- pack: plain: fit.Check takes the proof. -/
import Derived.Test.YthabgljdndbphaaGreatDoorQPKP27
import Derived.Test.YthabgljdndbphaaGreatDoorQPKP33

set_option linter.unusedVariables false
set_option linter.unusedSimpArgs false
namespace Go.Proofs.YthabgljdndbphaaGreatDoor
set_option linter.unusedSimpArgs false
set_option linter.unusedVariables false

/-- The choices with one more. -/
def updC (c : Nat → Int) (g : Nat) (v : Int) : Nat → Int := fun i => if i = g then v else c i
theorem updC_lt (c : Nat → Int) (g : Nat) (v : Int) {i : Nat} (h : i < g) : updC c g v i = c i := by unfold updC; rw [if_neg (by omega)]
theorem updC_at (c : Nat → Int) (g : Nat) (v : Int) : updC c g v g = v := by unfold updC; rw [if_pos rfl]
theorem dec_upd (c : Nat → Int) (g : Nat) (v : Int) : dec (updC c g v) (g + 1) = dec c g ++ [((g : Int), v)] := by
 rw [dec_succ, updC_at, dec_congr _ c g fun i hi => updC_lt c g v hi]
/-- What the runs are when the groups before g have their choices. -/
structure At (R : List Int) (G : List (Int × Int)) (c : Nat → Int) (g : Nat) (L : List (Int × Bool)) : Prop where
 runs : ∀ i, i < g → -1 ≤ c i ∧ c i < R.length
 rooms : L.map (·.1) = roomS R G (dec c g)
 used : UsedOk R.length (dec c g) (L.map (·.2))
section
variable {R : List Int} {G : List (Int × Int)} {c : Nat → Int} {g : Nat} {L : List (Int × Bool)}
theorem At.len (h : At R G c g L) : L.length = R.length := by
 have := congrArg List.length h.rooms
 rw [roomS_len, List.length_map] at this
 exact this
theorem At.room (h : At R G c g L) {r : Nat} (hr : r < L.length) : ix (roomS R G (dec c g)) r = L[r].1 := by
 rw [← h.rooms]
 unfold ix
 simp [hr]
theorem At.use (h : At R G c g L) {r : Nat} (hr : r < L.length) : L[r].2 = true ↔ ∃ p ∈ dec c g, p.2 = (r : Int) := by
 rw [← h.used.2 r (by rw [← h.len]; exact hr)]
 unfold bx
 simp [hr]
theorem At.sit (h : At R G c g L) {r : Nat} (hr : r < R.length) : At R G (updC c g r) (g + 1) (sitF L r (gs G g)) := by
 have hl := h.len
 obtain ⟨m1, m2⟩ := sit_maps L (q := r) (by omega) (gs G g)
 refine ⟨fun i hi => ?_, ?_, ?_⟩
 ·
  by_cases e : i = g
  ·
   subst e; rw [updC_at]; omega
  ·
   rw [updC_lt _ _ _ (by omega)]; exact h.runs i (by omega)
 ·
  rw [m1, dec_upd, roomS_push, roomF]
  dsimp only
  rw [if_pos (by omega), Int.toNat_natCast, Int.toNat_natCast, h.rooms]
 ·
  rw [m2, dec_upd]
  exact h.used.sit _ r hr
theorem At.out (h : At R G c g L) : At R G (updC c g (-1)) (g + 1) L := by
 refine ⟨fun i hi => ?_, ?_, ?_⟩
 ·
  by_cases e : i = g
  ·
   subst e; rw [updC_at]; omega
  ·
   rw [updC_lt _ _ _ (by omega)]; exact h.runs i (by omega)
 ·
  rw [dec_upd, roomS_push, roomF]
  dsimp only
  rw [if_neg (by omega), h.rooms]
 ·
  rw [dec_upd]
  exact h.used.out _ (-1) (by omega)
theorem At.start (R : List Int) (G : List (Int × Int)) (c : Nat → Int) : At R G c 0 (R.map run0) := by
 refine ⟨fun i hi => absurd hi (Nat.not_lt_zero _), ?_, ?_⟩
 ·
  rw [List.map_map]
  show R.map (fun x => x) = R
  simp
 ·
  have : (R.map run0).map (·.2) = List.replicate R.length false := by
   rw [List.map_map]
   show R.map (fun _ => false) = _
   exact List.map_const' ..
  rw [this]
  exact used_none _
theorem val_sit (G : List (Int × Int)) (c : Nat → Int) (g r : Nat) : valS G (dec (updC c g r) (g + 1)) = valS G (dec c g) + gs G g * gv G g := by
 rw [dec_upd, valS_push, valF]
 dsimp only
 rw [if_pos (by omega), Int.toNat_natCast]
theorem val_out (G : List (Int × Int)) (c : Nat → Int) (g : Nat) : valS G (dec (updC c g (-1)) (g + 1)) = valS G (dec c g) := by
 rw [dec_upd, valS_push, valF]
 dsimp only
 rw [if_neg (by omega)]
end
theorem sum_sit : ∀ (L : List (Int × Bool)) (i : Nat) (s : Int), i < L.length → sumL (sitF L i s) = sumL L - s
 | x :: L, 0, s, _ => by
  simp [sumL, sitF]
  omega
 | x :: L, i + 1, s, h => by
  have ih := sum_sit L i s (by simpa using h)
  unfold sumL sitF at ih ⊢
  rw [List.getD_cons_succ, List.set_cons_succ, List.map_cons, List.map_cons, List.sum_cons, List.sum_cons, ih]
  omega
theorem left_sum : ∀ (L : List (Int × Bool)), (∀ x ∈ L, 0 ≤ x.1) → leftS (L.map (·.1)) = sumL L ∧ 0 ≤ sumL L
 | [], _ => ⟨rfl, Int.le_refl _⟩
 | x :: L, h => by
  obtain ⟨h1, h2⟩ := left_sum L fun y hy => h y (List.mem_cons_of_mem _ hy)
  have hx := h x (List.mem_cons_self ..)
  unfold leftS sumL at *
  rw [List.map_cons, List.foldr_cons, List.sum_cons, h1]
  exact ⟨by rw [Int.max_eq_left hx], by omega⟩
theorem no_neg {L : List (Int × Bool)} (h : L.findIdx? negP = none) : ∀ x ∈ L, 0 ≤ x.1 := fun x hx => by
 have := (List.findIdx?_eq_none_iff.1 h) x hx
 unfold negP at this
 simp at this
 exact this

section
variable {single : Bool} {R : List Int} {G : List (Int × Int)} {val : Int} {T : List StepT}
theorem one_right {A B : List StepT} {t : StepT} {es : List (Int × Int)} (hT : T = A ++ [t] ++ B) (ht : (t.kind = 2 ∧ boundOk R G es val = true) ∨ (t.kind = 3 ∧ fitsOk single R G es t.group = true)) {f : Nat} (hf : 1 ≤ f) {seen : List Bool} (hs : seen.length = T.length) (hseen : ∀ j, A.length ≤ j → bx seen j = false) :
  (rightS single R G val T f es seen A.length).1 = true ∧ (rightS single R G val T f es seen A.length).2.length = T.length ∧ ∀ j, A.length + [t].length ≤ j → bx (rightS single R G val T f es seen A.length).2 j = false := by
 obtain ⟨f, rfl⟩ : ∃ x, f = x + 1 := ⟨f - 1, by omega⟩
 have hst : stepAt T A.length = t := by rw [hT, List.append_assoc]; exact stepAt_mid A _ B
 have hAT : A.length < T.length := by rw [hT]; simp <;> omega
 have hset : ∀ j, A.length + [t].length ≤ j → bx (seen.set A.length true) j = false := fun j hj => by
  rw [List.length_singleton] at hj
  rw [bx_set _ _ _ _ (by omega), if_neg (by omega)]; exact hseen j (by omega)
 have e : rightS single R G val T (f + 1) es seen A.length = (true, seen.set A.length true) := by
  rw [rightS, hst, hseen A.length (Nat.le_refl _)]
  rcases ht with ⟨h1, h2⟩ | ⟨h1, h2⟩ <;> simp [h1, h2]
 rw [e]
 exact ⟨rfl, by simp [hs], hset⟩
theorem bound_right (hv : ValuesOk G) (hm : G.length ≤ 4000) {c : Nat → Int} {g : Nat} {L : List (Int × Bool)} (hg : g ≤ G.length) (h : At R G c g L) (hn : ∀ x ∈ L, 0 ≤ x.1) (hsum : sumL L ≤ 4000) (hb : valS G (dec c g) + restB G g L ≤ val) : boundOk R G (dec c g) val = true := by
 unfold boundOk
 obtain ⟨h1, h2⟩ := left_sum L hn
 rw [← h.rooms, h1, fill_rest G g (decidedB (dec c g)) (fun x hx => ?_) (sumL L), ← restB_eq hv hm h2 hsum]
 ·
  exact decide_eq_true hb
 ·
  have hx' := (mem_ranked _ _).1 hx
  rw [Bool.eq_iff_iff, decidedB_iff, decide_eq_true_eq]
  constructor
  ·
   rintro ⟨p, hp, e⟩
   obtain ⟨i, hi, rfl⟩ := (mem_dec _ _ _).1 hp
   dsimp only at e
   omega
  ·
   intro hlt
   exact ⟨(x, c x.toNat), (mem_dec _ _ _).2 ⟨x.toNat, by omega, by rw [Int.toNat_of_nonneg hx'.1]⟩, rfl⟩
theorem fits_neg {c : Nat → Int} {g : Nat} {L : List (Int × Bool)} (h : At R G c g L) {i : Nat} (hi : L.findIdx? negP = some i) : fitsOk single R G (dec c g) (i : Int) = true := by
 obtain ⟨hl, hp, _⟩ := List.findIdx?_eq_some_iff_getElem.1 hi
 unfold negP at hp
 simp only [decide_eq_true_eq] at hp
 unfold fitsOk
 rw [if_neg (by have := h.len; omega), Int.toNat_natCast, h.room hl, decide_eq_true hp]
 rfl
theorem fits_one (hv : ValuesOk G) {c : Nat → Int} {L : List (Int × Bool)} (h : At R G c G.length L) (hs : single = true) (hx : ∃ r ∈ L, r.2 = true ∧ r.1 = 1) : fitsOk single R G (dec c G.length) (idxS oneP L) = true := by
 obtain ⟨x, hxm, h1, h2⟩ := hx
 have hany : L.any oneP = true := List.any_eq_true.2 ⟨x, hxm, by unfold oneP; rw [h1, decide_eq_true h2]; rfl⟩
 have hpos : 0 ≤ idxS oneP L := by
  have := idx_any oneP L
  rw [hany, decide_eq_true_eq] at this
  exact this
 have hlt : L.findIdx oneP < L.length := List.findIdx_lt_length.2 (List.any_eq_true.1 hany)
 have hi : idxS oneP L = (L.findIdx oneP : Nat) := by unfold idxS; rw [if_pos hlt]
 have hp := List.findIdx_getElem (xs := L) (p := oneP) (w := hlt)
 generalize L.findIdx oneP = i at *
 rw [hi]
 unfold oneP at hp
 simp only [Bool.and_eq_true, decide_eq_true_eq] at hp
 have hok : EsOk R.length G.length (dec c G.length) := dec_ok (Nat.le_refl _) h.runs
 unfold fitsOk
 rw [if_neg (by have := h.len; omega), Int.toNat_natCast, h.room hlt, dec_length]
 have hu : 0 < ix (usedS R.length (dec c G.length)) i := (usedS_iff (by have := h.len; omega) hok).2 ((h.use hlt).1 hp.1)
 simp [hs, hu, hp.2]

theorem stp_right (hv : ValuesOk G) (hm : G.length ≤ 4000) : ∀ (k g : Nat) (c : Nat → Int) (L : List (Int × Bool)) (gain : Int) (A B : List StepT) (f : Nat) (seen : List Bool), g + k = G.length → At R G c g L → sumL L ≤ 4000 → gain = valS G (dec c g) →
  T = A ++ stpF G val k g L gain A.length ++ B → (stpF G val k g L gain A.length).length ≤ f → seen.length = T.length → (∀ j, A.length ≤ j → bx seen j = false) →
  ((∀ x ∈ L, 0 ≤ x.1) → 0 ≤ packF single G k g L → gain + packF single G k g L ≤ val) →
  (rightS single R G val T f (dec c g) seen A.length).1 = true ∧ (rightS single R G val T f (dec c g) seen A.length).2.length = T.length ∧
   ∀ j, A.length + (stpF G val k g L gain A.length).length ≤ j → bx (rightS single R G val T f (dec c g) seen A.length).2 j = false := by
 intro k
 induction k with
 | zero =>
  intro g c L gain A B f seen hg hat hsum hgain hT hf hs hseen hmost
  obtain rfl : g = G.length := by omega
  cases hn : L.findIdx? negP with
  | some i =>
   rw [stp_neg hn] at hT hf ⊢
   exact one_right hT (Or.inr ⟨rfl, fits_neg hat hn⟩) (by simpa using hf) hs hseen
  | none =>
   by_cases hb : gain + restB G G.length L ≤ val
   ·
    rw [stp_bound hn hb] at hT hf ⊢
    exact one_right hT (Or.inl ⟨rfl, bound_right hv hm (Nat.le_refl _) hat (no_neg hn) hsum (by rw [← hgain]; exact hb)⟩) (by simpa using hf) hs hseen
   ·
    rw [stp_zero hn hb] at hT hf ⊢
    have hz : restB G G.length L = 0 := by
     rw [restB_eq hv hm (left_sum L (no_neg hn)).2 hsum]
     have : rankedL (G.drop G.length) = [] := by
      rw [List.drop_length]
      exact List.eq_nil_of_length_eq_zero (by rw [(rankedL_ok []).1.length_eq]; rfl)
     rw [this]
     rfl
    have h0 := hmost (no_neg hn)
    rw [packF_zero] at h0
    by_cases h1 : single = true ∧ ∃ r ∈ L, r.2 = true ∧ r.1 = 1
    ·
     exact one_right hT (Or.inr ⟨rfl, fits_one hv hat h1.1 h1.2⟩) (by simpa using hf) hs hseen
    ·
     rw [if_neg h1] at h0
     have := h0 (by omega)
     omega
 | succ k ih =>
  intro g c L gain A B f seen hg hat hsum hgain hT hf hs hseen hmost
  cases hn : L.findIdx? negP with
  | some i =>
   rw [stp_neg hn] at hT hf ⊢
   exact one_right hT (Or.inr ⟨rfl, fits_neg hat hn⟩) (by simpa using hf) hs hseen
  | none =>
   by_cases hb : gain + restB G g L ≤ val
   ·
    rw [stp_bound hn hb] at hT hf ⊢
    exact one_right hT (Or.inl ⟨rfl, bound_right hv hm (by omega) hat (no_neg hn) hsum (by rw [← hgain]; exact hb)⟩) (by simpa using hf) hs hseen
   ·
    rw [stp_succ hn hb] at hT hf ⊢
    have hlen := hat.len
    have hgv := hv g (by omega)
    have hpos : 0 ≤ gs G g * gv G g := Int.mul_nonneg (by omega) (by omega)
    obtain ⟨F, hF⟩ : ∃ F, F = (fun W b => stpKid (stpF G val k (g + 1)) G g L gain W b) := ⟨_, rfl⟩
    have hKU : ∀ r, kidsU G val k g L gain A.length r = prvKids F [0] 0 L.length A.length r := fun r => by rw [hF]; rfl
    have hFr : ∀ r b, r < L.length → F (([0] : List Int).set 0 (if r = L.length then -1 else (r : Int))) b = stpF G val k (g + 1) (sitF L r (gs G g)) (gain + gs G g * gv G g) b := fun r b hr => by rw [hF]; exact kid_run _ _ _ _ (by omega)
    have hFn : ∀ b, F (([0] : List Int).set 0 (if L.length = L.length then -1 else (L.length : Int))) b = stpF G val k (g + 1) L gain b := fun b => by rw [hF]; exact kid_none _ _ _
    rw [hKU] at hT hf ⊢
    clear hF
    obtain ⟨f, rfl⟩ : ∃ x, f = x + 1 := ⟨f - 1, by simp at hf; omega⟩
    have hAT : A.length < T.length := by rw [hT]; simp <;> omega
    have hset : ∀ j, A.length + 1 ≤ j → bx (seen.set A.length true) j = false := fun j hj => by
     rw [bx_set _ _ _ _ (by omega), if_neg (by omega)]; exact hseen j (by omega)
    have hst : stepAt T A.length = ⟨1, (g : Int), (prvKids F [0] 0 L.length A.length (L.length + 1)).2⟩ := by rw [hT, List.append_assoc]; exact stepAt_mid A _ _
    have hkl : (prvKids F [0] 0 L.length A.length (L.length + 1)).2.length = L.length + 1 := (prvKids_at F [0] 0 L.length A.length 0 (L.length + 1) (by omega)).2
    have hnd : ¬ decidedB (dec c g) (g : Int) = true := fun h => by
     obtain ⟨p, hp, e⟩ := (decidedB_iff _ _).mp h
     obtain ⟨i, hi, rfl⟩ := (mem_dec _ _ p).mp hp
     dsimp only at e
     omega
    have e : rightS single R G val T (f + 1) (dec c g) seen A.length =
      kidsL (rightS single R G val T f) (dec c g) g A.length T.length R.length 0 (prvKids F [0] 0 L.length A.length (L.length + 1)).2 (seen.set A.length true) := by
     rw [rightS, hst, hseen A.length (Nat.le_refl _)]
     dsimp only
     rw [if_neg (by simp), if_pos rfl, if_neg]
     rw [hkl]
     intro h
     rcases h with h | h | h | h
     ·
      omega
     ·
      omega
     ·
      exact h (by omega)
     ·
      exact hnd h
    rw [e]
    have hkids : ∀ j r s, r + j = L.length + 1 → s.length = T.length → (∀ q, A.length + 1 + (prvKids F [0] 0 L.length A.length r).1.length ≤ q → bx s q = false) →
      (kidsL (rightS single R G val T f) (dec c g) g A.length T.length R.length r ((prvKids F [0] 0 L.length A.length (L.length + 1)).2.drop r) s).1 = true ∧
      (kidsL (rightS single R G val T f) (dec c g) g A.length T.length R.length r ((prvKids F [0] 0 L.length A.length (L.length + 1)).2.drop r) s).2.length = T.length ∧
      ∀ q, A.length + 1 + (prvKids F [0] 0 L.length A.length (L.length + 1)).1.length ≤ q → bx (kidsL (rightS single R G val T f) (dec c g) g A.length T.length R.length r ((prvKids F [0] 0 L.length A.length (L.length + 1)).2.drop r) s).2 q = false := by
     intro j
     induction j with
     | zero =>
      intro r s hr hsl hsq
      obtain rfl : r = L.length + 1 := by omega
      rw [List.drop_eq_nil_of_le (by omega), kidsL]
      exact ⟨rfl, hsl, hsq⟩
     | succ j ihj =>
      intro r s hr hsl hsq
      rw [(prvKids_at F [0] 0 L.length A.length r (L.length + 1) (by omega)).1, kidsL]
      obtain ⟨X, hX⟩ := prvKids_split F [0] 0 L.length A.length r (L.length + 1) (by omega)
      have hFl : 1 ≤ (F (([0] : List Int).set 0 (if r = L.length then -1 else (r : Int))) (A.length + 1 + (prvKids F [0] 0 L.length A.length r).1.length)).length := by
       by_cases er : r = L.length
       ·
        subst er; rw [hFn]; exact stp_pos
       ·
        rw [hFr _ _ (by omega)]; exact stp_pos
      have hlen2 : (prvKids F [0] 0 L.length A.length (L.length + 1)).1.length = (prvKids F [0] 0 L.length A.length r).1.length + (F (([0] : List Int).set 0 (if r = L.length then -1 else (r : Int))) (A.length + 1 + (prvKids F [0] 0 L.length A.length r).1.length)).length + X.length := by
       rw [hX]; simp only [List.length_append]
      have hTl : T.length = A.length + (1 + (prvKids F [0] 0 L.length A.length (L.length + 1)).1.length) + B.length := by
       rw [hT]; simp; omega
      rw [if_neg (by omega)]
      dsimp only
      rw [Int.toNat_natCast]
      obtain ⟨A', hA'⟩ : ∃ A' : List StepT, A' = A ++ ⟨1, (g : Int), (prvKids F [0] 0 L.length A.length (L.length + 1)).2⟩ :: (prvKids F [0] 0 L.length A.length r).1 := ⟨_, rfl⟩
      have hA'l : A'.length = A.length + 1 + (prvKids F [0] 0 L.length A.length r).1.length := by rw [hA']; simp; omega
      have hnext : (prvKids F [0] 0 L.length A.length (r + 1)).1.length = (prvKids F [0] 0 L.length A.length r).1.length + (F (([0] : List Int).set 0 (if r = L.length then -1 else (r : Int))) (A.length + 1 + (prvKids F [0] 0 L.length A.length r).1.length)).length := by
       rw [prvKids]; simp
      have hpk := packF_spec single G k g L
      have key : (rightS single R G val T f (dec c g ++ [((g : Int), if r = R.length then -1 else (r : Int))]) s A'.length).1 = true ∧ (rightS single R G val T f (dec c g ++ [((g : Int), if r = R.length then -1 else (r : Int))]) s A'.length).2.length = T.length ∧
        ∀ q, A'.length + (F (([0] : List Int).set 0 (if r = L.length then -1 else (r : Int))) (A.length + 1 + (prvKids F [0] 0 L.length A.length r).1.length)).length ≤ q → bx (rightS single R G val T f (dec c g ++ [((g : Int), if r = R.length then -1 else (r : Int))]) s A'.length).2 q = false := by
       by_cases er : r = L.length
       ·
        subst er
        rw [if_pos hlen]
        rw [hFn] at hX hlen2 ⊢
        have i := ih (g + 1) (updC c g (-1)) L gain A' (X ++ B) f s (by omega) hat.out hsum (by rw [val_out]; exact hgain) (by rw [hA'l, hT, hX, hA']; simp) (by rw [hA'l]; simp only [List.length_cons] at hf; omega) hsl (fun q hq => hsq q (by omega))
         (fun h1 h2 => by
          have := hmost h1 (by omega)
          omega)
        rw [dec_upd] at i
        rw [← hA'l]
        exact i
       ·
        have hrl : r < L.length := by omega
        rw [if_neg (by omega)]
        rw [hFr _ _ hrl] at hX hlen2 ⊢
        have i := ih (g + 1) (updC c g r) (sitF L r (gs G g)) (gain + gs G g * gv G g) A' (X ++ B) f s (by omega) (hat.sit (by omega)) (by rw [sum_sit _ _ _ hrl]; omega) (by rw [val_sit, hgain]) (by rw [hA'l, hT, hX, hA']; simp) (by rw [hA'l]; simp only [List.length_cons] at hf; omega) hsl (fun q hq => hsq q (by omega))
         (fun h1 h2 => by
          have hfit : 0 ≤ L[r].1 - gs G g := by
           have := h1 ((sitF L r (gs G g))[r]'(by rw [sit_len]; exact hrl)) (List.getElem_mem (by rw [sit_len]; exact hrl))
           unfold sitF at this
           simp [hrl] at this
           omega
          have h3 := hpk.2.1 r hrl (by omega) h2
          have := hmost (no_neg hn) (by omega)
          omega)
        rw [dec_upd] at i
        rw [← hA'l]
        exact i
      rw [hA'l] at key
      rw [if_pos key.1]
      exact ihj (r + 1) _ (by omega) key.2.1 (fun q hq => key.2.2 q (by omega))
    have hk0 := hkids (L.length + 1) 0 (seen.set A.length true) (by omega) (by rw [List.length_set]; exact hs) (fun q hq => hset q (by simpa [prvKids] using hq))
    rw [List.drop_zero] at hk0
    exact ⟨hk0.1, hk0.2.1, fun j hj => hk0.2.2 j (by simp only [List.length_cons] at hj; omega)⟩
/-- .. from the start. -/
theorem stp_check (hv : validS R G = true) (hval : packF single G G.length 0 (R.map run0) = val) : checkS single R G val (stpF G val G.length 0 (R.map run0) 0 0) = true := by
 unfold checkS
 have hp := validS_parts hv
 have hsum : sumL (R.map run0) = R.sum := by
  unfold sumL
  rw [List.map_map]
  show (R.map fun x => x).sum = _
  simp
 have h := stp_right (single := single) (R := R) (G := G) (val := val) (T := stpF G val G.length 0 (R.map run0) 0 0) hp.2.2 (by
   have := hv
   unfold validS at this
   simp only [Bool.and_eq_true, decide_eq_true_eq] at this
   exact this.2.1) G.length 0 (fun _ => -1) (R.map run0) 0 [] [] (stpF G val G.length 0 (R.map run0) 0 0).length (List.replicate (stpF G val G.length 0 (R.map run0) 0 0).length false) (by omega) (At.start R G _)
  (by rw [hsum]; exact (runsOk_sum R 4000 (by omega) hp.1).2.1) rfl (by simp) (Nat.le_refl _) (by simp) (fun j _ => bx_rep _ _) (fun _ _ => by rw [hval]; omega)
 exact h.1
end
end Go.Proofs.YthabgljdndbphaaGreatDoor
