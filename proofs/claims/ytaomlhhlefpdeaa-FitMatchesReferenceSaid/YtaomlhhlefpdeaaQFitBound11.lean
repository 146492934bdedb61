/- fit.Bound; A. -/
import Derived.Test.YtaomlhhlefpdeaaQFitBound00
import Derived.Test.YtaomlhhlefpdeaaQFitBound10
import Derived.Deep.RegionHeld3
import Derived.Test.YtaomlhhlefpdeaaProg

namespace Go.Proofs.Ytaomlhhlefpdeaa
open Go.RowKit

/-- Insertion into a list in an order. -/
def insBy (lt : Int → Int → Bool) (x : Int) : List Int → List Int
  | [] => [x]
  | y :: l => if lt x y then x :: y :: l else y :: insBy lt x l

def sortBy (lt : Int → Int → Bool) : List Int → List Int
  | [] => []
  | x :: l => insBy lt x (sortBy lt l)

theorem insBy_perm (lt : Int → Int → Bool) (x : Int) (l : List Int) : (insBy lt x l).Perm (x :: l) := by
  induction l with
  | nil => exact List.Perm.refl _
  | cons y l ih =>
    rw [insBy]
    split
    · exact List.Perm.refl _
    · exact (ih.cons y).trans (List.Perm.swap x y l)

theorem sortBy_perm (lt : Int → Int → Bool) (l : List Int) : (sortBy lt l).Perm l := by
  induction l with
  | nil => exact List.Perm.refl _
  | cons x l ih => exact (insBy_perm lt x _).trans (ih.cons x)

theorem insBy_sorted {prec : Int → Int → Prop} (lt : Int → Int → Bool) (hlt : ∀ x y, lt x y = true ↔ prec x y) (htr : ∀ x y z, prec x y → prec y z → prec x z) (htot : ∀ x y, x ≠ y → prec x y ∨ prec y x) (x : Int) (l : List Int)
    (h : l.Pairwise prec) (hx : x ∉ l) : (insBy lt x l).Pairwise prec := by
  induction l with
  | nil => simp [insBy]
  | cons y l ih =>
    rw [insBy]
    rw [List.pairwise_cons] at h
    split
    · rename_i hxy
      have hp := (hlt x y).1 hxy
      exact List.pairwise_cons.2 ⟨fun z hz => by
        rcases List.mem_cons.1 hz with rfl | hz
        · exact hp
        · exact htr _ _ _ hp (h.1 z hz), List.pairwise_cons.2 h⟩
    · rename_i hxy
      refine List.pairwise_cons.2 ⟨fun z hz => ?_, ih h.2 (fun hm => hx (List.mem_cons_of_mem _ hm))⟩
      rcases List.mem_cons.1 ((insBy_perm lt x l).mem_iff.1 hz) with rfl | hz
      · rcases htot z y (fun e => hx (by rw [e]; simp)) with h1 | h1
        · exact absurd ((hlt z y).2 h1) hxy
        · exact h1
      · exact h.1 z hz

theorem sortBy_sorted {prec : Int → Int → Prop} (lt : Int → Int → Bool) (hlt : ∀ x y, lt x y = true ↔ prec x y) (htr : ∀ x y z, prec x y → prec y z → prec x z) (htot : ∀ x y, x ≠ y → prec x y ∨ prec y x) (l : List Int)
    (h : l.Nodup) : (sortBy lt l).Pairwise prec := by
  induction l with
  | nil => simp [sortBy]
  | cons x l ih =>
    rw [List.nodup_cons] at h
    exact insBy_sorted lt hlt htr htot x _ (ih h.2) (fun hm => h.1 ((sortBy_perm lt l).mem_iff.1 hm))

/-- A list sorted by a strict order is known by its elements. -/
theorem sorted_unique {prec : Int → Int → Prop} (hirr : ∀ x, ¬ prec x x) (htr : ∀ x y z, prec x y → prec y z → prec x z) : ∀ (A B : List Int), A.Perm B → A.Pairwise prec → B.Pairwise prec → A = B
  | [], B, hp, _, _ => (List.nil_perm.1 hp).symm
  | a :: A, [], hp, _, _ => absurd hp.length_eq (by simp)
  | a :: A, b :: B, hp, hA, hB => by
    rw [List.pairwise_cons] at hA hB
    have e : a = b := by
      rcases List.mem_cons.1 (hp.mem_iff.1 (List.mem_cons_self (a := a) (l := A))) with h | h
      · exact h
      · rcases List.mem_cons.1 (hp.mem_iff.2 (List.mem_cons_self (a := b) (l := B))) with h' | h'
        · exact h'.symm
        · exact absurd (htr _ _ _ (hA.1 b h') (hB.1 a h)) (hirr a)
    subst e
    rw [sorted_unique hirr htr A B (List.perm_cons a |>.1 hp) hA.2 hB.2]

def byValueB (G : List (Int × Int)) (u v : Int) : Bool := decide (gv G v.toNat < gv G u.toNat) || (gv G u.toNat == gv G v.toNat && decide (u < v))

theorem byValueB_iff (G : List (Int × Int)) (u v : Int) : byValueB G u v = true ↔ byValue G u v := by
  simp [byValueB, byValue]

/-- The numbers of the groups in the order by value. -/
def rankedL (G : List (Int × Int)) : List Int := sortBy (byValueB G) (idx G.length)

theorem rankedL_ok (G : List (Int × Int)) : Ranked G (rankedL G) :=
  ⟨sortBy_perm _ _, sortBy_sorted _ (byValueB_iff G) (byValue_trans G) (fun x y h => by unfold byValue; omega) _ (List.Pairwise.imp (fun h => by omega) (idx_lt G.length))⟩

theorem Ranked.eq {G : List (Int × Int)} {O : List Int} (h : Ranked G O) : O = rankedL G :=
  sorted_unique (prec := byValue G) (fun x h => by unfold byValue at h; omega) (byValue_trans G) _ _ (h.1.trans (rankedL_ok G).1.symm) h.2 (rankedL_ok G).2

def boundS (R : List Int) (G : List (Int × Int)) : Int := if validS R G then fillS G (fun _ => false) R.sum (rankedL G) else 0

theorem runsOk_sum : ∀ (l : List Int) (left : Int), 0 ≤ left → runsOk left l = true → 0 ≤ l.sum ∧ l.sum ≤ left ∧ ∀ k, k < l.length → 1 ≤ ix l k ∧ ix l k ≤ left
  | [], left, h, _ => by simp; exact h
  | n :: l, left, h, hr => by
    rw [runsOk] at hr
    split at hr
    · simp at hr
    · have ih := runsOk_sum l (left - n) (by omega) hr
      refine ⟨by rw [List.sum_cons]; omega, by rw [List.sum_cons]; omega, fun k hk => ?_⟩
      cases k with
      | zero => simp [ix]; omega
      | succ k => have := ih.2.2 k (by simpa using hk); simp [ix] at this ⊢; omega

theorem runsOk_take : ∀ (l : List Int) (left : Int) (i : Nat), 0 ≤ left → runsOk left l = true → 0 ≤ (l.take i).sum ∧ (l.take i).sum ≤ left
  | [], left, i, h, _ => by simp; exact h
  | n :: l, left, 0, h, hr => by simp; exact h
  | n :: l, left, i + 1, h, hr => by
    rw [runsOk] at hr
    split at hr
    · simp at hr
    · have ih := runsOk_take l (left - n) i (by omega) hr
      rw [List.take_succ_cons, List.sum_cons]; omega

theorem validS_parts {R : List Int} {G : List (Int × Int)} (h : validS R G = true) : runsOk 4000 R = true ∧ G.length ≤ 4000 ∧ ValuesOk G := by
  simp only [validS, Bool.and_eq_true, decide_eq_true_eq, groupsOk, Bool.not_eq_true', List.any_eq_false] at h
  refine ⟨h.1, h.2.1, fun k hk => ?_⟩
  have := h.2.2 G[k] (List.getElem_mem hk)
  simp [badG] at this
  simp [gs, gv, List.getD_eq_getElem?_getD, hk]
  omega

set_option maxRecDepth 10000 in
set_option maxHeartbeats 800000 in
theorem bound_any (ra ga : Option Addr) (n c m d : Nat) (single : Bool) (R : List Int) (G : List (Int × Int)) (w : World)
    (hn : n ≤ 4000) (hm : m ≤ 4000) (hR : Ints w ra n R) (hG : Pairs w ga m G) :
    Calls Try.prog 22 #[.agg #[.slice ra n c, .slice ga m d, .bool single]] w fun e w' => e = .returned (.int .i64 (boundS R G)) ∧ Below w.heap.size w w' := by
  cases hv : validS R G
  · have HB : Hid (boundS R G = 0) := by simp [Hid, boundS, hv]
    have HV := Lib.hid (valid_any ra ga n c m d single false R G (w.alloc (.cells #[.slice ra n c, .slice ga m d, .bool single] 25)) hn hm (hR.below ((Below.refl _ _).alloc (Nat.le_refl _) _)) (hG.below ((Below.refl _ _).alloc (Nat.le_refl _) _)) hv)
    clear hR hG hv
    go_enter Try.func22, Try.ntmps22
    go_wp2_with fail
    refine HV.out.mono ?_
    rintro e w1 ⟨rfl, hb⟩
    have hb0 : Below w.heap.size w w1 := ((Below.refl _ _).alloc (Nat.le_refl _) _).trans (hb.mono (by simp))
    go_wp2
    go_ret
    exact ⟨by rw [HB.out]; rfl, hb0⟩
  · have HB : Hid (boundS R G = fillS G (fun _ => false) R.sum (rankedL G)) := by simp [Hid, boundS, hv]
    have hvp := validS_parts hv
    have hsum := runsOk_sum R 4000 (by omega) hvp.1
    have HV := Lib.hid (valid_any ra ga n c m d single true R G (w.alloc (.cells #[.slice ra n c, .slice ga m d, .bool single] 25)) hn hm (hR.below ((Below.refl _ _).alloc (Nat.le_refl _) _)) (hG.below ((Below.refl _ _).alloc (Nat.le_refl _) _)) hv)
    have HVP := Lib.hid hvp; have HS := Lib.hid hsum; have HR := Lib.hid hR; have HG := Lib.hid hG
    clear hv hvp hsum hR hG
    go_enter Try.func22, Try.ntmps22
    go_wp2_with fail
    refine HV.out.mono ?_
    rintro e w1 ⟨rfl, hb⟩
    have hb0 : Below w.heap.size w w1 := ((Below.refl _ _).alloc (Nat.le_refl _) _).trans (hb.mono (by simp))
    have x0 : w1.cell? ⟨w.heap.size, 0, none⟩ = some (.slice ra n c) := Below.cell_of hb (by simp [go_sem])
    have x1 : w1.cell? ⟨w.heap.size, 1, none⟩ = some (.slice ga m d) := Below.cell_of hb (by simp [go_sem])
    clear hb HV
    go_wp2
    go_loopw [3, 5, 12] (fun v3 _ k wr => ∃ (i : Nat), i ≤ n ∧ v3 = .int .i64 (R.take i).sum ∧ k = .int .i64 i ∧ w1 = wr)
      (fun _ _ k _ => n - (intOf k).toNat)
    case atStart => exact ⟨0, Nat.zero_le _, by simp, rfl, rfl⟩
    case round =>
      obtain ⟨i, hi, rfl, rfl, rfl⟩ := hrel
      by_cases hlt : i < n
      · obtain ⟨bb, o, rfl, r1⟩ := (HR.out.below hb0).2 i hlt
        have hs : (R.take (i + 1)).sum = (R.take i).sum + ix R i := by
          have h1 : i < R.length := by rw [HR.out.1]; exact hlt
          rw [List.take_succ_eq_append_getElem h1, List.sum_append]
          simp [ix, List.getD_eq_getElem?_getD, h1]
        have hb1 : 0 ≤ (R.take i).sum ∧ (R.take i).sum ≤ 4000 := runsOk_take R 4000 i (by omega) HVP.out.1
        have hb2 := HS.out.2.2 i (by rw [HR.out.1]; exact hlt)
        have HSS := Lib.hid hs
        clear hs
        generalize (R.take i).sum = z at *
        generalize ix R i = x at *
        go_wp2
        go_roundw
        case rel => exact ⟨i + 1, by omega, by rw [HSS.out], by go_num, trivial⟩
        case measure => simp [intOf]; omega
      · have HT : Hid ((R.take i).sum = R.sum) := by rw [List.take_of_length_le (by rw [HR.out.1]; omega)]; rfl
        have hz := HS.out.1; have hz2 := HS.out.2.1
        rw [HT.out]
        have hm0 := HG.out.1
        have HM := Lib.hid hm0
        clear hm0
        have hb0 := hb0.drew
        have x1 : w1.drew.cell? ⟨w.heap.size, 1, none⟩ = some (.slice ga m d) := x1
        have HRK := Lib.hid (ranked_any ga m d G w1.drew hm (HG.out.below hb0) HVP.out.2.2)
        generalize R.sum = z at *
        go_wp2_with fail
        go_region_held3 (fun w' => w'.cell? ⟨w.heap.size, 1, none⟩ = some (.slice ga m d)) (go_keep)
          (first
            | (go_at_call 47; refine HRK.out.mono ?_; rintro e w2 ⟨oa, c', O, rfl, hb2, hO, hRk⟩; have x2 := Below.cell_of hb2 x1; have hRk2 := Lib.hid hRk; clear hRk)
            | (go_at_call 46; refine (fill_any 48 #[] (fun _ => false) ga oa m d m c' G O z w2 enter_bound1 (fun x wr _ _ _ => by simpa using (bound1_any x wr).mono (fun e w' h => ⟨h.1, by rw [h.2]; exact Below.refl _ _⟩)) hm ((HG.out.below hb0).below hb2) hO HVP.out.2.2 (fun x hx => by rw [← HM.out]; exact (mem_idx _ x).1 (hRk2.out.1.mem_iff.1 hx)) hz hz2).mono ?_; rintro e w3 ⟨rfl, hb3⟩; have x3 := Below.cell_of hb3 x2))
        go_wp2
        go_ret
        exact ⟨by rw [HB.out, hRk2.out.eq]; rfl, (hb0.trans (hb2.mono hb0.size)).trans (hb3.mono (Nat.le_trans hb0.size hb2.size))⟩
end Go.Proofs.Ytaomlhhlefpdeaa

namespace Go.Proofs.Ytaomlhhlefpdeaa
open Go.RowKit

def fits (single : Bool) (rest : Int) : Bool := decide (0 ≤ rest) && !(single && rest == 1)

/-- least run from k on -/
def roomFrom (single : Bool) (R F : List Int) (size : Int) (k : Nat) : Nat → Int
  | 0 => -1
  | n + 1 => if fits single (ix R k - ix F k - size) then k else roomFrom single R F size (k + 1) n

theorem roomFrom_step (single : Bool) (R F : List Int) (size : Int) (n i : Nat) (h : i < n) :
    roomFrom single R F size i (n - i) = if fits single (ix R i - ix F i - size) then (i : Int) else roomFrom single R F size (i + 1) (n - (i + 1)) := by
  obtain ⟨m, hm⟩ : ∃ m, n - i = m + 1 := ⟨n - i - 1, by omega⟩
  rw [hm, roomFrom, show n - (i + 1) = m from by omega]

set_option maxHeartbeats 400000 in
theorem room_any (ra fa : Option Addr) (n c fc : Nat) (gv : Value) (single : Bool) (size : Int) (R F : List Int) (w : World)
    (hm : n ≤ 4000) (hR : Ints w ra n R) (hF : Ints w fa n F)
    (bR : ∀ k, k < n → 0 ≤ ix R k ∧ ix R k ≤ 4000) (bF : ∀ k, k < n → 0 ≤ ix F k ∧ ix F k ≤ 4000) (bs : 0 ≤ size) (bs' : size ≤ 12) :
    Calls Try.prog 67 #[.agg #[.slice ra n c, gv, .bool single], .slice fa n fc, .int .i64 size] w
      fun e w' => e = .returned (.int .i64 (roomFrom single R F size 0 n)) ∧ Below w.heap.size w w' := by
  go_enter Try.func67, Try.ntmps67
  go_wp2
  go_loopw [6, 7, 8] (fun r0 k rest wr => ∃ i : Nat, i ≤ n ∧ k = .int .i64 i ∧ wr.cell? ⟨w.heap.size, 0, none⟩ = some (.slice ra n c) ∧ wr.cell? ⟨w.heap.size, 2, none⟩ = some (.bool single) ∧ Below w.heap.size w wr ∧ roomFrom single R F size 0 n = roomFrom single R F size i (n - i))
    (fun _ k _ _ => n - (intOf k).toNat)
  case atStart => exact ⟨0, Nat.zero_le _, rfl, by simp [World.cell?_alloc_new], by simp [World.cell?_alloc_new], (Below.refl _ _).alloc (Nat.le_refl _) _, rfl⟩
  case round =>
    obtain ⟨i, hi, rfl, hp0, hp2, hb, hrec⟩ := hrel
    have HR := Lib.hid hrec; clear hrec
    by_cases hlt : i < n
    · obtain ⟨rb, ro, rfl, r1⟩ := (hR.below hb).2 i hlt
      obtain ⟨fb, fo, rfl, r2⟩ := (hF.below hb).2 i hlt
      have HS := Lib.hid (roomFrom_step single R F size n i hlt)
      clear hR hF
      have b1 := bR i hlt; have b2 := bF i hlt
      clear bR bF
      by_cases h0 : 0 ≤ ix R i - ix F i - size
      · by_cases h1 : single = true
        · subst h1
          by_cases h2 : ix R i - ix F i - size = 1
          · have HT : Hid (fits true (ix R i - ix F i - size) = false) := by simp [Hid, fits, h2]
            have h3 : (ix R i - ix F i - size == 1) = true := beq_iff_eq.2 h2
            clear h2
            go_wp2_with fail
            go_quiet (fail)
            go_wp2
            go_roundw
            case rel => exact ⟨i + 1, by omega, by go_num, hp0, hp2, below_drewN hb _, by rw [HR.out, HS.out, HT.out]; rfl⟩
            case measure => simp [intOf]; omega
          · have HT : Hid (fits true (ix R i - ix F i - size) = true) := by simp [Hid, fits, h2]; omega
            have h3 : (ix R i - ix F i - size == 1) = false := beq_eq_false_iff_ne.2 h2
            clear h2
            go_wp2_with fail
            go_quiet (fail)
            go_wp2
            go_ret
            exact ⟨by rw [HR.out, HS.out, HT.out]; rfl, below_drewN hb _⟩
        · have h1 : single = false := by simpa using h1
          subst h1
          have HT : Hid (fits false (ix R i - ix F i - size) = true) := by simp [Hid, fits]; omega
          go_wp2_with fail
          go_quiet (fail)
          go_wp2
          go_ret
          exact ⟨by rw [HR.out, HS.out, HT.out]; rfl, below_drewN hb _⟩
      · have HT : Hid (fits single (ix R i - ix F i - size) = false) := by simp [Hid, fits]; omega
        go_wp2_with fail
        go_quiet (fail)
        go_wp2
        go_roundw
        case rel => exact ⟨i + 1, by omega, by go_num, hp0, hp2, below_drewN hb _, by rw [HR.out, HS.out, HT.out]; rfl⟩
        case measure => simp [intOf]; omega
    · go_wp2
      go_ret
      exact ⟨by rw [HR.out, show n - i = 0 from by omega]; rfl, hb⟩
end Go.Proofs.Ytaomlhhlefpdeaa
