/- fit.Bound; A; greedy.seat; greedy.seat. -/
import Derived.Test.YthabgljdndbphaaGreatDoorQPKP01
import Derived.Test.YthabgljdndbphaaGreatDoorQPKP09
import Derived.Deep.RegionHeld3
import Derived.Test.YthabgljdndbphaaGreatDoorProg
import Derived.WalkSpells
import Derived.StillTailTactics

set_option linter.unusedVariables false
set_option linter.unusedSimpArgs false
namespace Go.Proofs.YthabgljdndbphaaGreatDoor
open Go.RowKit

/-- Insertion into a list in an order. -/
def insBy (lt : Int → Int → Bool) (x : Int) : List Int → List Int
 | [] => [x]
 | y :: l => if lt x y then x :: y :: l else y :: insBy lt x l

def sortBy (lt : Int → Int → Bool) : List Int → List Int
 | [] => []
 | x :: l => insBy lt x (sortBy lt l)

theorem insBy_perm (lt : Int → Int → Bool) (x : Int) (l : List Int) : (insBy lt x l).Perm (x :: l) := by
 induction l with
 | nil => exact List.Perm.refl _
 | cons y l ih =>
  rw [insBy]
  split
  ·
   exact List.Perm.refl _
  ·
   exact (ih.cons y).trans (List.Perm.swap x y l)

theorem sortBy_perm (lt : Int → Int → Bool) (l : List Int) : (sortBy lt l).Perm l := by
 induction l with
 | nil => exact List.Perm.refl _
 | cons x l ih => exact (insBy_perm lt x _).trans (ih.cons x)

theorem insBy_sorted {prec : Int → Int → Prop} (lt : Int → Int → Bool) (hlt : ∀ x y, lt x y = true ↔ prec x y) (htr : ∀ x y z, prec x y → prec y z → prec x z) (htot : ∀ x y, x ≠ y → prec x y ∨ prec y x) (x : Int) (l : List Int)
  (h : l.Pairwise prec) (hx : x ∉ l) : (insBy lt x l).Pairwise prec := by
 induction l with
 | nil => simp [insBy]
 | cons y l ih =>
  rw [insBy]
  rw [List.pairwise_cons] at h
  split
  ·
   rename_i hxy
   have hp := (hlt x y).1 hxy
   exact List.pairwise_cons.2 ⟨fun z hz => by
    rcases List.mem_cons.1 hz with rfl | hz
    ·
     exact hp
    ·
     exact htr _ _ _ hp (h.1 z hz), List.pairwise_cons.2 h⟩
  ·
   rename_i hxy
   refine List.pairwise_cons.2 ⟨fun z hz => ?_, ih h.2 (fun hm => hx (List.mem_cons_of_mem _ hm))⟩
   rcases List.mem_cons.1 ((insBy_perm lt x l).mem_iff.1 hz) with rfl | hz
   ·
    rcases htot z y (fun e => hx (by rw [e]; simp)) with h1 | h1
    ·
     exact absurd ((hlt z y).2 h1) hxy
    ·
     exact h1
   ·
    exact h.1 z hz

theorem sortBy_sorted {prec : Int → Int → Prop} (lt : Int → Int → Bool) (hlt : ∀ x y, lt x y = true ↔ prec x y) (htr : ∀ x y z, prec x y → prec y z → prec x z) (htot : ∀ x y, x ≠ y → prec x y ∨ prec y x) (l : List Int)
  (h : l.Nodup) : (sortBy lt l).Pairwise prec := by
 induction l with
 | nil => simp [sortBy]
 | cons x l ih =>
  rw [List.nodup_cons] at h
  exact insBy_sorted lt hlt htr htot x _ (ih h.2) (fun hm => h.1 ((sortBy_perm lt l).mem_iff.1 hm))

/-- A list sorted by a strict order is known by its elements. -/
theorem sorted_unique {prec : Int → Int → Prop} (hirr : ∀ x, ¬ prec x x) (htr : ∀ x y z, prec x y → prec y z → prec x z) : ∀ (A B : List Int), A.Perm B → A.Pairwise prec → B.Pairwise prec → A = B
 | [], B, hp, _, _ => (List.nil_perm.1 hp).symm
 | a :: A, [], hp, _, _ => absurd hp.length_eq (by simp)
 | a :: A, b :: B, hp, hA, hB => by
  rw [List.pairwise_cons] at hA hB
  have e : a = b := by
   rcases List.mem_cons.1 (hp.mem_iff.1 (List.mem_cons_self (a := a) (l := A))) with h | h
   ·
    exact h
   ·
    rcases List.mem_cons.1 (hp.mem_iff.2 (List.mem_cons_self (a := b) (l := B))) with h' | h'
    ·
     exact h'.symm
    ·
     exact absurd (htr _ _ _ (hA.1 b h') (hB.1 a h)) (hirr a)
  subst e
  rw [sorted_unique hirr htr A B (List.perm_cons a |>.1 hp) hA.2 hB.2]

def byValueB (G : List (Int × Int)) (u v : Int) : Bool := decide (gv G v.toNat < gv G u.toNat) || (gv G u.toNat == gv G v.toNat && decide (u < v))

theorem byValueB_iff (G : List (Int × Int)) (u v : Int) : byValueB G u v = true ↔ byValue G u v := by
 simp [byValueB, byValue]

/-- The numbers of the groups in the order by value. -/
def rankedL (G : List (Int × Int)) : List Int := sortBy (byValueB G) (idx G.length)

theorem rankedL_ok (G : List (Int × Int)) : Ranked G (rankedL G) :=
 ⟨sortBy_perm _ _, sortBy_sorted _ (byValueB_iff G) (byValue_trans G) (fun x y h => by unfold byValue; omega) _ (List.Pairwise.imp (fun h => by omega) (idx_lt G.length))⟩

theorem Ranked.eq {G : List (Int × Int)} {O : List Int} (h : Ranked G O) : O = rankedL G :=
 sorted_unique (prec := byValue G) (fun x h => by unfold byValue at h; omega) (byValue_trans G) _ _ (h.1.trans (rankedL_ok G).1.symm) h.2 (rankedL_ok G).2

def boundS (R : List Int) (G : List (Int × Int)) : Int := if validS R G then fillS G (fun _ => false) R.sum (rankedL G) else 0

theorem runsOk_sum : ∀ (l : List Int) (left : Int), 0 ≤ left → runsOk left l = true → 0 ≤ l.sum ∧ l.sum ≤ left ∧ ∀ k, k < l.length → 1 ≤ ix l k ∧ ix l k ≤ left
 | [], left, h, _ => by simp; exact h
 | n :: l, left, h, hr => by
  rw [runsOk] at hr
  split at hr
  ·
   simp at hr
  ·
   have ih := runsOk_sum l (left - n) (by omega) hr
   refine ⟨by rw [List.sum_cons]; omega, by rw [List.sum_cons]; omega, fun k hk => ?_⟩
   cases k with
   | zero => simp [ix]; omega
   | succ k => have := ih.2.2 k (by simpa using hk); simp [ix] at this ⊢; omega

theorem runsOk_take : ∀ (l : List Int) (left : Int) (i : Nat), 0 ≤ left → runsOk left l = true → 0 ≤ (l.take i).sum ∧ (l.take i).sum ≤ left
 | [], left, i, h, _ => by simp; exact h
 | n :: l, left, 0, h, hr => by simp; exact h
 | n :: l, left, i + 1, h, hr => by
  rw [runsOk] at hr
  split at hr
  ·
   simp at hr
  ·
   have ih := runsOk_take l (left - n) i (by omega) hr
   rw [List.take_succ_cons, List.sum_cons]; omega

theorem validS_parts {R : List Int} {G : List (Int × Int)} (h : validS R G = true) : runsOk 4000 R = true ∧ G.length ≤ 4000 ∧ ValuesOk G := by
 simp only [validS, Bool.and_eq_true, decide_eq_true_eq, groupsOk, Bool.not_eq_true', List.any_eq_false] at h
 refine ⟨h.1, h.2.1, fun k hk => ?_⟩
 have := h.2.2 G[k] (List.getElem_mem hk)
 simp [badG] at this
 simp [gs, gv, List.getD_eq_getElem?_getD, hk]
 omega

set_option maxRecDepth 10000 in
set_option maxHeartbeats 800000 in
theorem bound_any (ra ga : Option Addr) (n c m d : Nat) (single : Bool) (R : List Int) (G : List (Int × Int)) (w : World)
  (hn : n ≤ 4000) (hm : m ≤ 4000) (hR : Ints w ra n R) (hG : Pairs w ga m G) :
  Calls Tryz.prog 18 #[.agg #[.slice ra n c, .slice ga m d, .bool single]] w fun e w' => e = .returned (.int .i64 (boundS R G)) ∧ Below w.heap.size w w' := by
 cases hv : validS R G
 ·
  have HB : Hid (boundS R G = 0) := by simp [Hid, boundS, hv]
  have HV := Lib.hid (valid_any ra ga n c m d single false R G (w.alloc (.cells #[.slice ra n c, .slice ga m d, .bool single] 25)) hn hm (hR.below ((Below.refl _ _).alloc (Nat.le_refl _) _)) (hG.below ((Below.refl _ _).alloc (Nat.le_refl _) _)) hv)
  clear hR hG hv
  go_enter Tryz.func18, Tryz.ntmps18
  go_wp2_with fail
  refine HV.out.mono ?_
  rintro e w1 ⟨rfl, hb⟩
  have hb0 : Below w.heap.size w w1 := ((Below.refl _ _).alloc (Nat.le_refl _) _).trans (hb.mono (by simp))
  go_wp2
  go_ret
  exact ⟨by rw [HB.out]; rfl, hb0⟩
 ·
  have HB : Hid (boundS R G = fillS G (fun _ => false) R.sum (rankedL G)) := by simp [Hid, boundS, hv]
  have hvp := validS_parts hv
  have hsum := runsOk_sum R 4000 (by omega) hvp.1
  have HV := Lib.hid (valid_any ra ga n c m d single true R G (w.alloc (.cells #[.slice ra n c, .slice ga m d, .bool single] 25)) hn hm (hR.below ((Below.refl _ _).alloc (Nat.le_refl _) _)) (hG.below ((Below.refl _ _).alloc (Nat.le_refl _) _)) hv)
  have HVP := Lib.hid hvp; have HS := Lib.hid hsum; have HR := Lib.hid hR; have HG := Lib.hid hG
  clear hv hvp hsum hR hG
  go_enter Tryz.func18, Tryz.ntmps18
  go_wp2_with fail
  refine HV.out.mono ?_
  rintro e w1 ⟨rfl, hb⟩
  have hb0 : Below w.heap.size w w1 := ((Below.refl _ _).alloc (Nat.le_refl _) _).trans (hb.mono (by simp))
  have x0 : w1.cell? ⟨w.heap.size, 0, none⟩ = some (.slice ra n c) := Below.cell_of hb (by simp [go_sem])
  have x1 : w1.cell? ⟨w.heap.size, 1, none⟩ = some (.slice ga m d) := Below.cell_of hb (by simp [go_sem])
  clear hb HV
  go_wp2
  go_loopw [3, 5, 12] (fun v3 _ k wr => ∃ (i : Nat), i ≤ n ∧ v3 = .int .i64 (R.take i).sum ∧ k = .int .i64 i ∧ w1 = wr)
   (fun _ _ k _ => n - (intOf k).toNat)
  case atStart => exact ⟨0, Nat.zero_le _, by simp, rfl, rfl⟩
  case round =>
   obtain ⟨i, hi, rfl, rfl, rfl⟩ := hrel
   by_cases hlt : i < n
   ·
    obtain ⟨bb, o, rfl, r1⟩ := (HR.out.below hb0).2 i hlt
    have hs : (R.take (i + 1)).sum = (R.take i).sum + ix R i := by
     have h1 : i < R.length := by rw [HR.out.1]; exact hlt
     rw [List.take_succ_eq_append_getElem h1, List.sum_append]
     simp [ix, List.getD_eq_getElem?_getD, h1]
    have hb1 : 0 ≤ (R.take i).sum ∧ (R.take i).sum ≤ 4000 := runsOk_take R 4000 i (by omega) HVP.out.1
    have hb2 := HS.out.2.2 i (by rw [HR.out.1]; exact hlt)
    have HSS := Lib.hid hs
    clear hs
    generalize (R.take i).sum = z at *
    generalize ix R i = x at *
    go_wp2
    go_roundw
    case rel => exact ⟨i + 1, by omega, by rw [HSS.out], by go_num, trivial⟩
    case measure => simp [intOf]; omega
   ·
    have HT : Hid ((R.take i).sum = R.sum) := by rw [List.take_of_length_le (by rw [HR.out.1]; omega)]; rfl
    have hz := HS.out.1; have hz2 := HS.out.2.1
    rw [HT.out]
    have hm0 := HG.out.1
    have HM := Lib.hid hm0
    clear hm0
    have hb0 := hb0.drew
    have x1 : w1.drew.cell? ⟨w.heap.size, 1, none⟩ = some (.slice ga m d) := x1
    have HRK := Lib.hid (ranked_any ga m d G w1.drew hm (HG.out.below hb0) HVP.out.2.2)
    generalize R.sum = z at *
    go_wp2_with fail
    go_region_held3 (fun w' => w'.cell? ⟨w.heap.size, 1, none⟩ = some (.slice ga m d)) (go_keep)
     (first
      | (go_at_call 33; refine HRK.out.mono ?_; rintro e w2 ⟨oa, c', O, rfl, hb2, hO, hRk⟩; have x2 := Below.cell_of hb2 x1; have hRk2 := Lib.hid hRk; clear hRk)
      | (go_at_call 39; refine (fill_any 40 #[] (fun _ => false) ga oa m d m c' G O z w2 enter_bound1 (fun x wr _ _ _ => by simpa using (bound1_any x wr).mono (fun e w' h => ⟨h.1, by rw [h.2]; exact Below.refl _ _⟩)) hm ((HG.out.below hb0).below hb2) hO HVP.out.2.2 (fun x hx => by rw [← HM.out]; exact (mem_idx _ x).1 (hRk2.out.1.mem_iff.1 hx)) hz hz2).mono ?_; rintro e w3 ⟨rfl, hb3⟩; have x3 := Below.cell_of hb3 x2))
    go_wp2
    go_ret
    exact ⟨by rw [HB.out, hRk2.out.eq]; rfl, (hb0.trans (hb2.mono hb0.size)).trans (hb3.mono (Nat.le_trans hb0.size hb2.size))⟩
end Go.Proofs.YthabgljdndbphaaGreatDoor

namespace Go.Proofs.YthabgljdndbphaaGreatDoor
open Go.RowKit

def fits (single : Bool) (rest : Int) : Bool := decide (0 ≤ rest) && !(single && rest == 1)



end Go.Proofs.YthabgljdndbphaaGreatDoor

namespace Go.Proofs.YthabgljdndbphaaGreatDoor
open Go.RowKit





/-- A slice of integers of the call's own: where it has elements it starts a block from B on. -/
def OwnInts (w : World) (B : Nat) (la : Option Addr) (n : Nat) (L : List Int) : Prop :=
 L.length = n ∧ (0 < n → ∃ g, la = some ⟨g, 0, none⟩ ∧ B ≤ g ∧ IntRow w g 3 L)

theorem OwnInts.of_row {w : World} {B n : Nat} {v : Value} {L : List Int} (h : w.ownsRow B 3 1 v n (L.map (Value.int .i64))) : ∃ la c, v = .slice la n c ∧ OwnInts w B la n L := by
 have hl : L.length = n := by have := h.1; simpa using this
 rcases h.2 with ⟨rfl, h0⟩ | ⟨g, cap, cur, rfl, hb, hh, h1, _, h3, h4⟩
 ·
  subst h0; exact ⟨none, 0, rfl, hl, fun h => absurd h (by omega)⟩
 ·
  refine ⟨_, _, rfl, hl, fun _ => ⟨g, rfl, hb, cur, hh, by omega, fun k hk => ?_⟩⟩
  have h5 : (cur.toList.take (n * 1))[k]? = (L.map (Value.int .i64))[k]? := by rw [h4]
  rw [List.getElem?_take_of_lt (by omega)] at h5
  simp only [Array.getElem?_toList, List.getElem?_map] at h5
  rw [h5]
  simp [ix, List.getD_eq_getElem?_getD, hk]

theorem OwnInts.ints {w : World} {B n : Nat} {la : Option Addr} {L : List Int} (h : OwnInts w B la n L) : Ints w la n L := by
 refine ⟨h.1, fun k hk => ?_⟩
 obtain ⟨g, rfl, _, hr⟩ := h.2 (by omega)
 exact ⟨g, 0, rfl, by rw [Nat.zero_add]; exact hr.cell k (by rw [h.1]; exact hk)⟩

theorem Tryz_infoInt : (Tryz.prog.info? 3).map (fun i => (i.zero, i.size, i.bytes)) = some (some (.int .i64 0), 1, 8) := by kernel_rfl

set_option maxRecDepth 10000 in
set_option maxHeartbeats 400000 in
theorem clone_any (ra : Option Addr) (n c : Nat) (L : List Int) (w : World) (hn : n ≤ 4000) (hL : Ints w ra n L) (hc : ra = none → c = 0) :
  Calls Tryz.prog 34 #[.slice ra n c] w fun e w' => ∃ la c', e = .returned (.slice la n c') ∧ Below w.heap.size w w' ∧ OwnInts w' w.heap.size la n L := by
 cases ra with
 | none =>
  obtain rfl := hc rfl
  have h0 : n = 0 := by
   rcases Nat.eq_zero_or_pos n with h | h
   ·
    exact h
   ·
    obtain ⟨b, o, e, _⟩ := hL.2 0 h; simp at e
  subst h0
  have hl : Hid (L.length = 0) := hL.1
  clear hL hc
  have hnil := fun w => Lib.run_eql_slice_nil (P := Tryz.prog) w 22 3 none 0 0 0 0 Tryz.underlying22
  go_enter Tryz.func34, Tryz.ntmps34
  go_wp2
  go_ret
  exact ⟨none, 0, rfl, Below.refl _ _, hl.out, fun h => absurd h (by omega)⟩
 | some ad =>
  have hnil := fun w => Lib.run_eql_slice_nil (P := Tryz.prog) w 22 3 (some ad) n c 0 0 Tryz.underlying22
  obtain ⟨i0, hi, hz0, hz1, hz2⟩ := info_parts Tryz_infoInt
  have hnews : Hid (∀ (j : Nat) (u : Value), (L.map (Value.int .i64))[j]? = some u → (w.alloc (.cells #[] 3)).cell? (ad.add j) = some u) := by
   intro j u hj
   have hjn : j < n := by
    rw [← hL.1]
    rcases Nat.lt_or_ge j L.length with h | h
    ·
     exact h
    ·
     rw [List.getElem?_eq_none (by simpa using h)] at hj; simp at hj
   obtain ⟨b, o, e, hcell⟩ := hL.2 j hjn
   simp only [Option.some.injEq] at e
   subst e
   have e2 : (⟨b, o, none⟩ : Addr).add j = ⟨b, o + j, none⟩ := by unfold Addr.add; split <;> simp_all
   rw [e2, World.cell?_alloc_lt _ _ _ (cell_lt hcell), hcell]
   have hjl : j < L.length := by rw [hL.1]; exact hjn
   simp [hjl] at hj
   rw [← hj]
   simp [ix, List.getD_eq_getElem?_getD, hjl]
  have hlen : Hid ((L.map (Value.int .i64)).length = n * 1) := by simp [Hid, hL.1]
  have hone : Hid (∀ u ∈ L.map (Value.int .i64), u.oneCell' = true) := by
   intro u hu
   obtain ⟨x, _, rfl⟩ := List.mem_map.1 hu
   rfl
  have hb : n ≤ maxLen := by unfold maxLen; omega
  clear hL hc
  go_enter Tryz.func34, Tryz.ntmps34
  go_wp2_with (at_builtin; refine wpList_append_own _ rfl _ _ 22 rfl w.heap.size 3 i0 (.int .i64 0) 1 8 Tryz.underlying22 hi hz0 hz1 hz2 rfl (by decide) _ 0 [] rfl (World.ownsRow_made w #[] 0 (Nat.le_refl _) (by unfold maxLen; omega) rfl) ad n c (L.map (Value.int .i64)) rfl hlen.out hnews.out hone.out (by omega) (by omega) (by simp) ?_)
  intro v' w1 hown hgrow _
  have ho := OwnInts.of_row (L := L) (by simpa using hown)
  have hbel : Below w.heap.size w w1 := ((Below.refl _ _).alloc (Nat.le_refl _) _).grown hgrow (by simp) (fun k hk => by simp [Value.ownBlock] at hk; omega)
  obtain ⟨la, c', rfl, ho⟩ := ho
  have HO := Lib.hid ho
  clear hown hgrow ho
  go_wp2
  go_ret
  exact ⟨la, c', rfl, hbel, HO.out⟩
end Go.Proofs.YthabgljdndbphaaGreatDoor

namespace Go.Proofs.YthabgljdndbphaaGreatDoor
open Go.RowKit

/-- A block of cells that holds pairs of integers. -/
def PairRow (w : World) (g : Nat) (T : TypeId) (S : List (Int × Int)) : Prop :=
 ∃ arr : Array Value, w.heap[g]? = some (.cells arr T (0, 0)) ∧ S.length * 2 ≤ arr.size ∧ ∀ k, k < S.length → arr[k * 2]? = some (.int .i64 (gs S k)) ∧ arr[k * 2 + 1]? = some (.int .i64 (gv S k))

theorem PairRow.lt {w : World} {g : Nat} {T : TypeId} {S : List (Int × Int)} (h : PairRow w g T S) : g < w.heap.size :=
 let ⟨_, e, _⟩ := h; lt_of_block e

theorem PairRow.of_heap {w w' : World} {g : Nat} {T : TypeId} {S : List (Int × Int)} (h : PairRow w g T S) (e : w'.heap[g]? = w.heap[g]?) : PairRow w' g T S := by
 obtain ⟨arr, e1, r⟩ := h
 exact ⟨arr, e.trans e1, r⟩

theorem IntRow.of_heap {w w' : World} {g : Nat} {T : TypeId} {S : List Int} (h : IntRow w g T S) (e : w'.heap[g]? = w.heap[g]?) : IntRow w' g T S := by
 obtain ⟨arr, e1, r⟩ := h
 exact ⟨arr, e.trans e1, r⟩

theorem PairRow.cell1 {w : World} {g : Nat} {T : TypeId} {S : List (Int × Int)} (h : PairRow w g T S) (k : Nat) (hk : k < S.length) : w.cell? ⟨g, k * 2, none⟩ = some (.int .i64 (gs S k)) := by
 obtain ⟨arr, e, _, c⟩ := h
 simp only [World.cell?, e]
 exact (c k hk).1

theorem PairRow.cell2 {w : World} {g : Nat} {T : TypeId} {S : List (Int × Int)} (h : PairRow w g T S) (k : Nat) (hk : k < S.length) : w.cell? ⟨g, k * 2 + 1, none⟩ = some (.int .i64 (gv S k)) := by
 obtain ⟨arr, e, _, c⟩ := h
 simp only [World.cell?, e]
 exact (c k hk).2

theorem PairRow.free {w : World} {g : Nat} {T : TypeId} {S : List (Int × Int)} (h : PairRow w g T S) (k : Nat) : w.frozen? ⟨g, k, none⟩ = false := by
 obtain ⟨arr, e, _, c⟩ := h
 simp only [World.frozen?, e]
 simp





theorem PairRow.pairs {w : World} {g : Nat} {T : TypeId} {S : List (Int × Int)} (h : PairRow w g T S) : Pairs w (some ⟨g, 0, none⟩) S.length S :=
 ⟨rfl, fun k hk => ⟨g, 0, rfl, by rw [Nat.zero_add]; exact h.cell1 k hk, by rw [Nat.zero_add]; exact h.cell2 k hk⟩⟩


theorem PairRow.made {w : World} {arr : Array Value} {T : TypeId} {n g : Nat} (hg : g = w.heap.size) (hs : arr.size = n * 2) (hz : ∀ k, k < n * 2 → arr[k]? = some (.int .i64 0)) : PairRow (w.alloc (.cells arr T)) g T (List.replicate n (0, 0)) := by
 subst hg
 refine ⟨arr, ?_, by simp [hs], fun k hk => ?_⟩
 ·
  show (w.heap.push _)[w.heap.size]? = _
  simp
 ·
  rw [List.length_replicate] at hk
  rw [hz _ (by omega), hz _ (by omega)]
  simp [gs, gv, List.getD_eq_getElem?_getD, hk]

def Box (w : World) (b : Nat) (T : TypeId) (vs : Array Value) : Prop := w.heap[b]? = some (.cells vs T (0, 0))

theorem Box.cell {w : World} {b : Nat} {T : TypeId} {vs : Array Value} (h : Box w b T vs) (k : Nat) : w.cell? ⟨b, k, none⟩ = vs[k]? := by
 unfold Box at h
 simp only [World.cell?, h]
 simp

theorem Box.free {w : World} {b : Nat} {T : TypeId} {vs : Array Value} (h : Box w b T vs) (k : Nat) : w.frozen? ⟨b, k, none⟩ = false := by
 unfold Box at h
 simp only [World.frozen?, h]
 simp

theorem Box.of_heap {w w' : World} {b : Nat} {T : TypeId} {vs : Array Value} (h : Box w b T vs) (e : w'.heap[b]? = w.heap[b]?) : Box w' b T vs := e.trans h

theorem Box.new {w : World} {b : Nat} {T : TypeId} {vs : Array Value} (hb : b = w.heap.size) : Box (w.alloc (.cells vs T)) b T vs := by
 subst hb
 show (w.heap.push _)[w.heap.size]? = _
 simp

theorem Box.alloc {w : World} {b : Nat} {T : TypeId} {vs : Array Value} (h : Box w b T vs) (o : Obj) : Box (w.alloc o) b T vs :=
 h.of_heap (Below.heap_alloc _ _ _ (lt_of_block h))

theorem Box.below {w w' : World} {b : Nat} {T : TypeId} {vs : Array Value} (h : Box w b T vs) (hb : Below w.heap.size w w') : Box w' b T vs :=
 h.of_heap (hb.block _ (lt_of_block h))

theorem Box.set {w : World} {b : Nat} {T : TypeId} {vs : Array Value} (h : Box w b T vs) (k : Nat) (v : Value) : Box (w.setCell ⟨b, k, none⟩ v) b T (vs.setIfInBounds k v) := by
 unfold Box at *
 simp [World.setCell, Array.getElem?_modify, h]

theorem heap_set {w : World} {b k : Nat} {v : Value} (g : Nat) (h : g ≠ b) : (w.setCell ⟨b, k, none⟩ v).heap[g]? = w.heap[g]? := Below.heap_setCell _ _ _ _ h



structure PackSt where
 left : List Int
 spots : List (Int × Int)
 value : Int




end Go.Proofs.YthabgljdndbphaaGreatDoor
