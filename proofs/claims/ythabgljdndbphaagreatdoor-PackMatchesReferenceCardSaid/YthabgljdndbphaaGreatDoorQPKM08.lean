/- fit.ranked, fit.fill, fit.Bound; fit.Bound; A; greedy.seat; greedy.seat. -/
import Derived.Test.YthabgljdndbphaaGreatDoorQPKM01
import Derived.Test.YthabgljdndbphaaGreatDoorQPKM07
import Derived.Deep.OwnRows
import Derived.Deep.RegionHeld3
import Derived.Test.YthabgljdndbphaaGreatDoorProg
import Derived.WalkSpells
import Derived.StillTailTactics

set_option linter.unusedVariables false
set_option linter.unusedSimpArgs false
namespace Go.Proofs.YthabgljdndbphaaGreatDoor
open Go.RowKit

/-- The numbers from 0 on. -/
def idx (n : Nat) : List Int := (List.range n).map fun (k : Nat) => (k : Int)

theorem idx_length (n : Nat) : (idx n).length = n := by simp [idx]

theorem ix_idx (n k : Nat) (h : k < n) : ix (idx n) k = k := by
 simp [ix, idx, List.getD_eq_getElem?_getD, h]

theorem mem_idx (n : Nat) (x : Int) : x ∈ idx n ↔ 0 ≤ x ∧ x < n := by
 simp only [idx, List.mem_map, List.mem_range]
 exact ⟨fun ⟨k, h, e⟩ => by omega, fun h => ⟨x.toNat, by omega, by omega⟩⟩

theorem idx_lt (n : Nat) : (idx n).Pairwise (· < ·) := by
 rw [idx, List.pairwise_map]
 exact List.Pairwise.imp (fun h => by omega) (List.pairwise_lt_range (n := n))

theorem make_ints (n : Nat) (hn : n ≤ 4000) : ∃ arr : Array Value, arr.size = n ∧ (∀ k, k < n → arr[k]? = some (.int .i64 0)) ∧
  ∀ w : World, (Instr.makeSlice 22 (.int .i64 (n : Int)) (.int .i64 (n : Int))).run Tryz.prog w = .ok (.slice (some ⟨w.heap.size, 0, none⟩) n n) (w.alloc (.cells arr 3)) := by
 refine ⟨madeCells #[.int .i64 0] n, size_madeCells _ _, fun k hk => ?_, fun w => ?_⟩
 ·
  simp [madeCells, hk, Nat.mod_one]
 ·
  exact run_make_row' 22 3 (.int .i64 0) 8 Tryz.underlying22 (by kernel_rfl) rfl .i64 .i64 n (by omega) (by omega) w

theorem IntRow.made {w : World} {arr : Array Value} {T : TypeId} {n g : Nat} (hg : g = w.heap.size) (hs : arr.size = n) (hz : ∀ k, k < n → arr[k]? = some (.int .i64 0)) : IntRow (w.alloc (.cells arr T)) g T (List.replicate n 0) := by
 subst hg
 refine ⟨arr, ?_, by simp [hs], fun k hk => ?_⟩
 ·
  show (w.heap.push _)[w.heap.size]? = _
  simp
 ·
  rw [List.length_replicate] at hk
  rw [hz k hk]
  simp [ix, List.getD_eq_getElem?_getD, hk]

theorem IntRow.ints {w : World} {g : Nat} {T : TypeId} {D : List Int} (h : IntRow w g T D) : Ints w (some ⟨g, 0, none⟩) D.length D :=
 ⟨rfl, fun k hk => ⟨g, 0, rfl, by rw [Nat.zero_add]; exact h.cell k hk⟩⟩

/-- A greater value comes first, of equal ones the lesser number. -/
def byValue (G : List (Int × Int)) (u v : Int) : Prop := gv G v.toNat < gv G u.toNat ∨ (gv G u.toNat = gv G v.toNat ∧ u < v)

theorem byValue_trans (G : List (Int × Int)) (x y z : Int) (h : byValue G x y) (k : byValue G y z) : byValue G x z := by
 unfold byValue at *; omega

/-- The numbers of the groups in the order by value. -/
def Ranked (G : List (Int × Int)) (O : List Int) : Prop := O.Perm (idx G.length) ∧ O.Pairwise (byValue G)

def ValuesOk (G : List (Int × Int)) : Prop := ∀ k, k < G.length → (1 ≤ gs G k ∧ gs G k ≤ 12) ∧ 0 ≤ gv G k ∧ gv G k ≤ 1000000

theorem enter_ranked1 (args : Array Value) (w : World) : (callFunc 53 args).run Tryz.prog w = .ok (.enter 53 args) w := by
 kernel_rfl

set_option maxRecDepth 10000 in
set_option maxHeartbeats 400000 in
theorem ranked1_any (B : Nat) (ra : Option Addr) (n c : Nat) (G : List (Int × Int)) (x y : Int) (w : World) (hc : w.cell? ⟨B, 0, none⟩ = some (.slice ra n c)) (hG : Pairs w ra n G) (hv : ValuesOk G)
  (hx : 0 ≤ x ∧ x < n) (hy : 0 ≤ y ∧ y < n) :
  Calls Tryz.prog 53 #[.int .i64 x, .int .i64 y, .pointer (some ⟨B, 0, none⟩)] w fun e w' => e = .returned (.int .i64 (gv G y.toNat - gv G x.toNat)) ∧ ∃ q, w' = w.drewN q := by
 obtain ⟨i, rfl⟩ : ∃ i : Nat, x = i := ⟨x.toNat, by omega⟩
 obtain ⟨j, rfl⟩ : ∃ i : Nat, y = i := ⟨y.toNat, by omega⟩
 have b1 := hv i (by rw [hG.1]; omega)
 have b2 := hv j (by rw [hG.1]; omega)
 obtain ⟨b, o, rfl, _, c1⟩ := hG.2 i (by omega)
 obtain ⟨b', o', e, _, c2⟩ := hG.2 j (by omega)
 obtain ⟨rfl, rfl⟩ : b = b' ∧ o = o' := by simpa using e
 obtain ⟨_, b1⟩ := b1; obtain ⟨_, b2⟩ := b2
 clear hG hv e
 go_enter Tryz.func53, Tryz.ntmps53
 go_wp2
 go_quiet (fail)
 go_wp2
 go_ret
 exact ⟨by simp, nq, rfl⟩

set_option maxRecDepth 10000 in
set_option maxHeartbeats 800000 in
theorem ranked_any (ra : Option Addr) (n c : Nat) (G : List (Int × Int)) (w : World) (hn : n ≤ 4000) (hG : Pairs w ra n G) (hv : ValuesOk G) :
  Calls Tryz.prog 33 #[.slice ra n c] w fun e w' => ∃ oa c' O, e = .returned (.slice oa n c') ∧ Below w.heap.size w w' ∧ Ints w' oa n O ∧ Ranked G O := by
 obtain ⟨arr, hs, hz, hmk⟩ := make_ints n hn
 have hrow0 := IntRow.made (w := w.alloc (.cells #[.slice ra n c] 23)) (T := 3) (g := w.heap.size + 1) (by simp) hs hz
 have HROW := Lib.hid hrow0
 have HG := Lib.hid hG; have HV := Lib.hid hv
 clear hrow0 hz hs hG hv
 go_enter Tryz.func33, Tryz.ntmps33
 go_wp2
 go_loopw [4, 10] (fun _ v wr => ∃ (i : Nat) (D : List Int), v = .int .i64 i ∧ i ≤ n ∧ Hid (D.length = n) ∧ Hid (∀ k, k < i → ix D k = k) ∧ IntRow wr (w.heap.size + 1) 3 D ∧ Below w.heap.size w wr ∧ wr.cell? ⟨w.heap.size, 0, none⟩ = some (.slice ra n c))
  (fun _ v _ => n - (intOf v).toNat)
 case atStart => exact ⟨0, _, rfl, Nat.zero_le _, List.length_replicate, by simp [Hid], HROW.out, (((Below.refl _ _).alloc (Nat.le_refl _) _).alloc (by simp) _), by simp [go_sem]⟩
 case round =>
  clear HROW hmk
  obtain ⟨i, D, rfl, hi, H1, H2, hr, hb, hbox⟩ := hrel
  by_cases hlt : i < n
  ·
   have c1 := hr.cell i (by rw [H1.out]; exact hlt)
   have f1 := hr.free i
   have HS := Lib.hid (hr.set i (by rw [H1.out]; exact hlt) i)
   clear hr
   go_wp2
   go_roundw
   case rel => exact ⟨i + 1, _, by go_num, by omega, by show _ = _; rw [List.length_set]; exact H1.out, by
    intro k hk
    rw [ix_set _ _ _ _ (by rw [H1.out]; exact hlt)]
    by_cases h : i = k
    ·
     rw [if_pos h, h]
    ·
     rw [if_neg h]; exact H2.out k (by omega), HS.out, hb.setCell (by simp) _, by simpa [go_sem] using hbox⟩
   case measure => simp [intOf]; omega
  ·
   have hD : D = idx n := by
    apply list_ext_ix
    ·
     rw [H1.out, idx_length]
    ·
     intro k hk; rw [H1.out] at hk; rw [ix_idx n k hk]; exact H2.out k (by omega)
   subst hD
   have hN : n = G.length := HG.out.1.symm
   have hcmp : CmpAt 53 #[.pointer (some ⟨w.heap.size, 0, none⟩)] (fun x y => gv G y.toNat - gv G x.toNat) (fun x => 0 ≤ x ∧ x < n) (w.heap.size + 1) wr := by
    intro x y w' hx hy hg
    have hbx : w'.cell? ⟨w.heap.size, 0, none⟩ = some (.slice ra n c) := hg.cell hbox (by simp)
    have hb2 : Below w.heap.size w w' := hb.grown hg hb.size (fun k hk => by simp at hk; omega)
    simpa using ranked1_any w.heap.size ra n c G x y w' hbx (HG.out.below hb2) HV.out hx hy
   have HS := Lib.hid (sortStable_any 53 #[.pointer (some ⟨w.heap.size, 0, none⟩)] _ _ (byValue G) (w.heap.size + 1) 3 n n (idx n) wr enter_ranked1 hcmp (byValue_trans G) (idx_length n).symm hn hr (fun x hx => (mem_idx n x).1 hx) (by
    refine List.Pairwise.imp ?_ (idx_lt n)
    intro u v huv
    unfold Ok byValue
    dsimp only
    omega))
   clear hcmp hr hbox H1 H2
   have HN := Lib.hid hN; clear hN
   go_wp2_with fail
   refine HS.out.mono ?_
   rintro e w1 ⟨rfl, hg, D', hr', hp, ho⟩
   have hb2 : Below w.heap.size w w1 := hb.grown hg hb.size (fun k hk => by simp at hk; omega)
   have hl : D'.length = n := by rw [hp.length_eq, idx_length]
   have FIN : Hid (∃ oa c' O, Ending.returned (.slice (some ⟨w.heap.size + 1, 0, none⟩) n n) = .returned (.slice oa n c') ∧ Below w.heap.size w w1 ∧ Ints w1 oa n O ∧ Ranked G O) :=
    ⟨_, _, D', rfl, hb2, by have := hr'.ints; rw [hl] at this; exact this, by rw [HN.out] at hp; exact hp, ho⟩
   clear hr' hp ho hg hb2 hl hb HS
   go_wp2
   go_ret
   exact FIN.out
/-- What the groups, in an order, those that are not left out, bring for a length. -/
def fillS (G : List (Int × Int)) (p : Int → Bool) : Int → List Int → Int
 | _, [] => 0
 | n, i :: O => if p i then fillS G p n O else min (gs G i.toNat) n * gv G i.toNat + fillS G p (n - min (gs G i.toNat) n) O

theorem enter_bound1 (args : Array Value) (w : World) : (callFunc 40 args).run Tryz.prog w = .ok (.enter 40 args) w := by
 kernel_rfl

theorem bound1_any (x : Int) (w : World) : Calls Tryz.prog 40 #[.int .i64 x] w fun e w' => e = .returned (.bool false) ∧ w = w' := by
 go_enter Tryz.func40, Tryz.ntmps40
 go_wp2
 go_ret
 exact ⟨rfl, rfl⟩

set_option maxRecDepth 10000 in
set_option maxHeartbeats 800000 in
theorem fill_any (f : Nat) (cap : Array Value) (p : Int → Bool) (ga oa : Option Addr) (m d n c : Nat) (G : List (Int × Int)) (O : List Int) (len : Int) (w : World)
  (hcf : ∀ (args : Array Value) (w : World), (callFunc f args).run Tryz.prog w = .ok (.enter f args) w)
  (hcl : ∀ x wr, Below w.heap.size w wr → 0 ≤ x → x < m → Calls Tryz.prog f (#[.int .i64 x] ++ cap) wr fun e w' => e = .returned (.bool (p x)) ∧ Below wr.heap.size wr w')
  (hn : n ≤ 4000) (hG : Pairs w ga m G) (hO : Ints w oa n O) (hv : ValuesOk G) (hr : ∀ x ∈ O, 0 ≤ x ∧ x < m) (hl0 : 0 ≤ len) (hl1 : len ≤ 4000) :
  Calls Tryz.prog 39 #[.slice ga m d, .slice oa n c, .func (.func f) #[] cap, .int .i64 len] w fun e w' => e = .returned (.int .i64 (fillS G p len O)) ∧ Below w.heap.size w w' := by
 have HC := Lib.hid hcl; have HG := Lib.hid hG; have HO := Lib.hid hO; have HV := Lib.hid hv; have HR := Lib.hid hr
 clear hcl hG hO hv hr
 go_enter Tryz.func39, Tryz.ntmps39
 go_wp2
 go_loopw [3, 9, 11, 12, 15] (fun v3 v9 _ _ v15 wr => ∃ (i : Nat) (left value : Int), v3 = .int .i64 left ∧ v9 = .int .i64 value ∧ v15 = .int .i64 i ∧ i ≤ n ∧ 0 ≤ left ∧ left ≤ 4000 ∧ 0 ≤ value ∧ value ≤ 12000000 * i ∧ Below w.heap.size w wr ∧
   Hid (fillS G p len O = value + fillS G p left (O.drop i)))
  (fun _ _ _ _ v15 _ => n - (intOf v15).toNat)
 case atStart => exact ⟨0, len, 0, rfl, rfl, rfl, Nat.zero_le _, hl0, hl1, by omega, by omega, Below.refl _ _, by simp [Hid]⟩
 case round =>
  obtain ⟨i, left, value, rfl, rfl, rfl, hi, h1, h2, h3, h4, hb, HF⟩ := hrel
  by_cases hlt : i < n
  ·
   obtain ⟨bo, oo, rfl, c0⟩ := (HO.out.below hb).2 i hlt
   have hd := drop_ix O i (by rw [HO.out.1]; exact hlt)
   have hx := HR.out (ix O i) (by
    have hlt' : i < O.length := by rw [HO.out.1]; exact hlt
    simp [ix, List.getD_eq_getElem?_getD, hlt'])
   obtain ⟨x, hxx⟩ : ∃ x : Nat, (x : Int) = ix O i := ⟨(ix O i).toNat, by omega⟩
   rw [← hxx] at c0 hd hx
   have hxm : x < m := by omega
   have HD := Lib.hid hd
   have hC := HC.out x wr hb (by omega) (by omega)
   obtain ⟨q, hq⟩ : ∃ q, q = p x := ⟨_, rfl⟩
   rw [← hq] at hC
   have HQ := Lib.hid hq; have HC2 := Lib.hid hC
   clear hd hx hxx hq hC
   go_wp2_with fail
   refine HC2.out.mono ?_
   rintro e w1 ⟨rfl, hb1⟩
   have hb2 := hb.trans (hb1.mono hb.size)
   cases q
   ·
    obtain ⟨bg, og, rfl, c1, c2⟩ := (HG.out.below hb2).2 x hxm
    have hv := HV.out x (by rw [HG.out.1]; exact hxm)
    have HF2 : Hid (fillS G p left (O.drop i) = min (gs G x) left * gv G x + fillS G p (left - min (gs G x) left) (O.drop (i + 1))) := by
     rw [HD.out]; simp [Hid, fillS, ← HQ.out]
    obtain ⟨s, hs⟩ : ∃ s, s = gs G x := ⟨_, rfl⟩
    obtain ⟨v, hvv⟩ : ∃ v, v = gv G x := ⟨_, rfl⟩
    rw [← hs] at c1 hv HF2; rw [← hvv] at c2 hv HF2
    clear hs hvv
    obtain ⟨k, hk⟩ : ∃ k, k = min s left := ⟨_, rfl⟩
    have hk1 : 0 ≤ k ∧ k ≤ 12 ∧ k ≤ left := by omega
    have hkv : 0 ≤ k * v ∧ k * v ≤ 12000000 := ⟨Int.mul_nonneg (by omega) (by omega), Int.le_trans (Int.mul_le_mul (show k ≤ 12 by omega) (show v ≤ 1000000 by omega) (by omega) (by omega)) (by omega)⟩
    have hk' : min s left = k := hk.symm
    rw [hk'] at HF2
    have hk2 : (if left < s then left else s) = k := by rw [hk]; split <;> omega
    have HB2 := Lib.hid hb2
    clear hb hb1 hb2 hk hk'
    go_wp2
    go_roundw
    case rel => exact ⟨i + 1, left - k, value + k * v, rfl, rfl, by go_num, by omega, by omega, by omega, by omega, by omega, HB2.out, by rw [HF.out, HF2.out]; simp only [Hid]; omega⟩
    case measure => simp [intOf]; omega
   ·
    have HB2 := Lib.hid hb2
    clear hb hb1 hb2
    go_wp2
    go_roundw
    case rel => exact ⟨i + 1, left, value, rfl, rfl, by go_num, by omega, h1, h2, h3, by omega, HB2.out, by rw [HF.out, HD.out, fillS]; simp [Hid, ← HQ.out]⟩
    case measure => simp [intOf]; omega
  ·
   go_wp2
   go_ret
   exact ⟨by rw [HF.out, List.drop_eq_nil_of_le (by rw [HO.out.1]; omega)]; simp [fillS], hb⟩
end Go.Proofs.YthabgljdndbphaaGreatDoor

namespace Go.Proofs.YthabgljdndbphaaGreatDoor
open Go.RowKit

/-- Insertion into a list in an order. -/
def insBy (lt : Int → Int → Bool) (x : Int) : List Int → List Int
 | [] => [x]
 | y :: l => if lt x y then x :: y :: l else y :: insBy lt x l

def sortBy (lt : Int → Int → Bool) : List Int → List Int
 | [] => []
 | x :: l => insBy lt x (sortBy lt l)

theorem insBy_perm (lt : Int → Int → Bool) (x : Int) (l : List Int) : (insBy lt x l).Perm (x :: l) := by
 induction l with
 | nil => exact List.Perm.refl _
 | cons y l ih =>
  rw [insBy]
  split
  ·
   exact List.Perm.refl _
  ·
   exact (ih.cons y).trans (List.Perm.swap x y l)

theorem sortBy_perm (lt : Int → Int → Bool) (l : List Int) : (sortBy lt l).Perm l := by
 induction l with
 | nil => exact List.Perm.refl _
 | cons x l ih => exact (insBy_perm lt x _).trans (ih.cons x)

theorem insBy_sorted {prec : Int → Int → Prop} (lt : Int → Int → Bool) (hlt : ∀ x y, lt x y = true ↔ prec x y) (htr : ∀ x y z, prec x y → prec y z → prec x z) (htot : ∀ x y, x ≠ y → prec x y ∨ prec y x) (x : Int) (l : List Int)
  (h : l.Pairwise prec) (hx : x ∉ l) : (insBy lt x l).Pairwise prec := by
 induction l with
 | nil => simp [insBy]
 | cons y l ih =>
  rw [insBy]
  rw [List.pairwise_cons] at h
  split
  ·
   rename_i hxy
   have hp := (hlt x y).1 hxy
   exact List.pairwise_cons.2 ⟨fun z hz => by
    rcases List.mem_cons.1 hz with rfl | hz
    ·
     exact hp
    ·
     exact htr _ _ _ hp (h.1 z hz), List.pairwise_cons.2 h⟩
  ·
   rename_i hxy
   refine List.pairwise_cons.2 ⟨fun z hz => ?_, ih h.2 (fun hm => hx (List.mem_cons_of_mem _ hm))⟩
   rcases List.mem_cons.1 ((insBy_perm lt x l).mem_iff.1 hz) with rfl | hz
   ·
    rcases htot z y (fun e => hx (by rw [e]; simp)) with h1 | h1
    ·
     exact absurd ((hlt z y).2 h1) hxy
    ·
     exact h1
   ·
    exact h.1 z hz

theorem sortBy_sorted {prec : Int → Int → Prop} (lt : Int → Int → Bool) (hlt : ∀ x y, lt x y = true ↔ prec x y) (htr : ∀ x y z, prec x y → prec y z → prec x z) (htot : ∀ x y, x ≠ y → prec x y ∨ prec y x) (l : List Int)
  (h : l.Nodup) : (sortBy lt l).Pairwise prec := by
 induction l with
 | nil => simp [sortBy]
 | cons x l ih =>
  rw [List.nodup_cons] at h
  exact insBy_sorted lt hlt htr htot x _ (ih h.2) (fun hm => h.1 ((sortBy_perm lt l).mem_iff.1 hm))

/-- A list sorted by a strict order is known by its elements. -/
theorem sorted_unique {prec : Int → Int → Prop} (hirr : ∀ x, ¬ prec x x) (htr : ∀ x y z, prec x y → prec y z → prec x z) : ∀ (A B : List Int), A.Perm B → A.Pairwise prec → B.Pairwise prec → A = B
 | [], B, hp, _, _ => (List.nil_perm.1 hp).symm
 | a :: A, [], hp, _, _ => absurd hp.length_eq (by simp)
 | a :: A, b :: B, hp, hA, hB => by
  rw [List.pairwise_cons] at hA hB
  have e : a = b := by
   rcases List.mem_cons.1 (hp.mem_iff.1 (List.mem_cons_self (a := a) (l := A))) with h | h
   ·
    exact h
   ·
    rcases List.mem_cons.1 (hp.mem_iff.2 (List.mem_cons_self (a := b) (l := B))) with h' | h'
    ·
     exact h'.symm
    ·
     exact absurd (htr _ _ _ (hA.1 b h') (hB.1 a h)) (hirr a)
  subst e
  rw [sorted_unique hirr htr A B (List.perm_cons a |>.1 hp) hA.2 hB.2]

def byValueB (G : List (Int × Int)) (u v : Int) : Bool := decide (gv G v.toNat < gv G u.toNat) || (gv G u.toNat == gv G v.toNat && decide (u < v))

theorem byValueB_iff (G : List (Int × Int)) (u v : Int) : byValueB G u v = true ↔ byValue G u v := by
 simp [byValueB, byValue]

/-- The numbers of the groups in the order by value. -/
def rankedL (G : List (Int × Int)) : List Int := sortBy (byValueB G) (idx G.length)

theorem rankedL_ok (G : List (Int × Int)) : Ranked G (rankedL G) :=
 ⟨sortBy_perm _ _, sortBy_sorted _ (byValueB_iff G) (byValue_trans G) (fun x y h => by unfold byValue; omega) _ (List.Pairwise.imp (fun h => by omega) (idx_lt G.length))⟩

theorem Ranked.eq {G : List (Int × Int)} {O : List Int} (h : Ranked G O) : O = rankedL G :=
 sorted_unique (prec := byValue G) (fun x h => by unfold byValue at h; omega) (byValue_trans G) _ _ (h.1.trans (rankedL_ok G).1.symm) h.2 (rankedL_ok G).2

def boundS (R : List Int) (G : List (Int × Int)) : Int := if validS R G then fillS G (fun _ => false) R.sum (rankedL G) else 0

theorem runsOk_sum : ∀ (l : List Int) (left : Int), 0 ≤ left → runsOk left l = true → 0 ≤ l.sum ∧ l.sum ≤ left ∧ ∀ k, k < l.length → 1 ≤ ix l k ∧ ix l k ≤ left
 | [], left, h, _ => by simp; exact h
 | n :: l, left, h, hr => by
  rw [runsOk] at hr
  split at hr
  ·
   simp at hr
  ·
   have ih := runsOk_sum l (left - n) (by omega) hr
   refine ⟨by rw [List.sum_cons]; omega, by rw [List.sum_cons]; omega, fun k hk => ?_⟩
   cases k with
   | zero => simp [ix]; omega
   | succ k => have := ih.2.2 k (by simpa using hk); simp [ix] at this ⊢; omega

theorem runsOk_take : ∀ (l : List Int) (left : Int) (i : Nat), 0 ≤ left → runsOk left l = true → 0 ≤ (l.take i).sum ∧ (l.take i).sum ≤ left
 | [], left, i, h, _ => by simp; exact h
 | n :: l, left, 0, h, hr => by simp; exact h
 | n :: l, left, i + 1, h, hr => by
  rw [runsOk] at hr
  split at hr
  ·
   simp at hr
  ·
   have ih := runsOk_take l (left - n) i (by omega) hr
   rw [List.take_succ_cons, List.sum_cons]; omega

theorem validS_parts {R : List Int} {G : List (Int × Int)} (h : validS R G = true) : runsOk 4000 R = true ∧ G.length ≤ 4000 ∧ ValuesOk G := by
 simp only [validS, Bool.and_eq_true, decide_eq_true_eq, groupsOk, Bool.not_eq_true', List.any_eq_false] at h
 refine ⟨h.1, h.2.1, fun k hk => ?_⟩
 have := h.2.2 G[k] (List.getElem_mem hk)
 simp [badG] at this
 simp [gs, gv, List.getD_eq_getElem?_getD, hk]
 omega

set_option maxRecDepth 10000 in
set_option maxHeartbeats 800000 in
theorem bound_any (ra ga : Option Addr) (n c m d : Nat) (single : Bool) (R : List Int) (G : List (Int × Int)) (w : World)
  (hn : n ≤ 4000) (hm : m ≤ 4000) (hR : Ints w ra n R) (hG : Pairs w ga m G) :
  Calls Tryz.prog 18 #[.agg #[.slice ra n c, .slice ga m d, .bool single]] w fun e w' => e = .returned (.int .i64 (boundS R G)) ∧ Below w.heap.size w w' := by
 cases hv : validS R G
 ·
  have HB : Hid (boundS R G = 0) := by simp [Hid, boundS, hv]
  have HV := Lib.hid (valid_any ra ga n c m d single false R G (w.alloc (.cells #[.slice ra n c, .slice ga m d, .bool single] 25)) hn hm (hR.below ((Below.refl _ _).alloc (Nat.le_refl _) _)) (hG.below ((Below.refl _ _).alloc (Nat.le_refl _) _)) hv)
  clear hR hG hv
  go_enter Tryz.func18, Tryz.ntmps18
  go_wp2_with fail
  refine HV.out.mono ?_
  rintro e w1 ⟨rfl, hb⟩
  have hb0 : Below w.heap.size w w1 := ((Below.refl _ _).alloc (Nat.le_refl _) _).trans (hb.mono (by simp))
  go_wp2
  go_ret
  exact ⟨by rw [HB.out]; rfl, hb0⟩
 ·
  have HB : Hid (boundS R G = fillS G (fun _ => false) R.sum (rankedL G)) := by simp [Hid, boundS, hv]
  have hvp := validS_parts hv
  have hsum := runsOk_sum R 4000 (by omega) hvp.1
  have HV := Lib.hid (valid_any ra ga n c m d single true R G (w.alloc (.cells #[.slice ra n c, .slice ga m d, .bool single] 25)) hn hm (hR.below ((Below.refl _ _).alloc (Nat.le_refl _) _)) (hG.below ((Below.refl _ _).alloc (Nat.le_refl _) _)) hv)
  have HVP := Lib.hid hvp; have HS := Lib.hid hsum; have HR := Lib.hid hR; have HG := Lib.hid hG
  clear hv hvp hsum hR hG
  go_enter Tryz.func18, Tryz.ntmps18
  go_wp2_with fail
  refine HV.out.mono ?_
  rintro e w1 ⟨rfl, hb⟩
  have hb0 : Below w.heap.size w w1 := ((Below.refl _ _).alloc (Nat.le_refl _) _).trans (hb.mono (by simp))
  have x0 : w1.cell? ⟨w.heap.size, 0, none⟩ = some (.slice ra n c) := Below.cell_of hb (by simp [go_sem])
  have x1 : w1.cell? ⟨w.heap.size, 1, none⟩ = some (.slice ga m d) := Below.cell_of hb (by simp [go_sem])
  clear hb HV
  go_wp2
  go_loopw [3, 5, 12] (fun v3 _ k wr => ∃ (i : Nat), i ≤ n ∧ v3 = .int .i64 (R.take i).sum ∧ k = .int .i64 i ∧ w1 = wr)
   (fun _ _ k _ => n - (intOf k).toNat)
  case atStart => exact ⟨0, Nat.zero_le _, by simp, rfl, rfl⟩
  case round =>
   obtain ⟨i, hi, rfl, rfl, rfl⟩ := hrel
   by_cases hlt : i < n
   ·
    obtain ⟨bb, o, rfl, r1⟩ := (HR.out.below hb0).2 i hlt
    have hs : (R.take (i + 1)).sum = (R.take i).sum + ix R i := by
     have h1 : i < R.length := by rw [HR.out.1]; exact hlt
     rw [List.take_succ_eq_append_getElem h1, List.sum_append]
     simp [ix, List.getD_eq_getElem?_getD, h1]
    have hb1 : 0 ≤ (R.take i).sum ∧ (R.take i).sum ≤ 4000 := runsOk_take R 4000 i (by omega) HVP.out.1
    have hb2 := HS.out.2.2 i (by rw [HR.out.1]; exact hlt)
    have HSS := Lib.hid hs
    clear hs
    generalize (R.take i).sum = z at *
    generalize ix R i = x at *
    go_wp2
    go_roundw
    case rel => exact ⟨i + 1, by omega, by rw [HSS.out], by go_num, trivial⟩
    case measure => simp [intOf]; omega
   ·
    have HT : Hid ((R.take i).sum = R.sum) := by rw [List.take_of_length_le (by rw [HR.out.1]; omega)]; rfl
    have hz := HS.out.1; have hz2 := HS.out.2.1
    rw [HT.out]
    have hm0 := HG.out.1
    have HM := Lib.hid hm0
    clear hm0
    have hb0 := hb0.drew
    have x1 : w1.drew.cell? ⟨w.heap.size, 1, none⟩ = some (.slice ga m d) := x1
    have HRK := Lib.hid (ranked_any ga m d G w1.drew hm (HG.out.below hb0) HVP.out.2.2)
    generalize R.sum = z at *
    go_wp2_with fail
    go_region_held3 (fun w' => w'.cell? ⟨w.heap.size, 1, none⟩ = some (.slice ga m d)) (go_keep)
     (first
      | (go_at_call 33; refine HRK.out.mono ?_; rintro e w2 ⟨oa, c', O, rfl, hb2, hO, hRk⟩; have x2 := Below.cell_of hb2 x1; have hRk2 := Lib.hid hRk; clear hRk)
      | (go_at_call 39; refine (fill_any 40 #[] (fun _ => false) ga oa m d m c' G O z w2 enter_bound1 (fun x wr _ _ _ => by simpa using (bound1_any x wr).mono (fun e w' h => ⟨h.1, by rw [h.2]; exact Below.refl _ _⟩)) hm ((HG.out.below hb0).below hb2) hO HVP.out.2.2 (fun x hx => by rw [← HM.out]; exact (mem_idx _ x).1 (hRk2.out.1.mem_iff.1 hx)) hz hz2).mono ?_; rintro e w3 ⟨rfl, hb3⟩; have x3 := Below.cell_of hb3 x2))
    go_wp2
    go_ret
    exact ⟨by rw [HB.out, hRk2.out.eq]; rfl, (hb0.trans (hb2.mono hb0.size)).trans (hb3.mono (Nat.le_trans hb0.size hb2.size))⟩
end Go.Proofs.YthabgljdndbphaaGreatDoor

namespace Go.Proofs.YthabgljdndbphaaGreatDoor
open Go.RowKit

def fits (single : Bool) (rest : Int) : Bool := decide (0 ≤ rest) && !(single && rest == 1)



end Go.Proofs.YthabgljdndbphaaGreatDoor

namespace Go.Proofs.YthabgljdndbphaaGreatDoor
open Go.RowKit





/-- A slice of integers of the call's own: where it has elements it starts a block from B on. -/
def OwnInts (w : World) (B : Nat) (la : Option Addr) (n : Nat) (L : List Int) : Prop :=
 L.length = n ∧ (0 < n → ∃ g, la = some ⟨g, 0, none⟩ ∧ B ≤ g ∧ IntRow w g 3 L)

theorem OwnInts.of_row {w : World} {B n : Nat} {v : Value} {L : List Int} (h : w.ownsRow B 3 1 v n (L.map (Value.int .i64))) : ∃ la c, v = .slice la n c ∧ OwnInts w B la n L := by
 have hl : L.length = n := by have := h.1; simpa using this
 rcases h.2 with ⟨rfl, h0⟩ | ⟨g, cap, cur, rfl, hb, hh, h1, _, h3, h4⟩
 ·
  subst h0; exact ⟨none, 0, rfl, hl, fun h => absurd h (by omega)⟩
 ·
  refine ⟨_, _, rfl, hl, fun _ => ⟨g, rfl, hb, cur, hh, by omega, fun k hk => ?_⟩⟩
  have h5 : (cur.toList.take (n * 1))[k]? = (L.map (Value.int .i64))[k]? := by rw [h4]
  rw [List.getElem?_take_of_lt (by omega)] at h5
  simp only [Array.getElem?_toList, List.getElem?_map] at h5
  rw [h5]
  simp [ix, List.getD_eq_getElem?_getD, hk]

theorem OwnInts.ints {w : World} {B n : Nat} {la : Option Addr} {L : List Int} (h : OwnInts w B la n L) : Ints w la n L := by
 refine ⟨h.1, fun k hk => ?_⟩
 obtain ⟨g, rfl, _, hr⟩ := h.2 (by omega)
 exact ⟨g, 0, rfl, by rw [Nat.zero_add]; exact hr.cell k (by rw [h.1]; exact hk)⟩

theorem Tryz_infoInt : (Tryz.prog.info? 3).map (fun i => (i.zero, i.size, i.bytes)) = some (some (.int .i64 0), 1, 8) := by kernel_rfl

set_option maxRecDepth 10000 in
set_option maxHeartbeats 400000 in
theorem clone_any (ra : Option Addr) (n c : Nat) (L : List Int) (w : World) (hn : n ≤ 4000) (hL : Ints w ra n L) (hc : ra = none → c = 0) :
  Calls Tryz.prog 34 #[.slice ra n c] w fun e w' => ∃ la c', e = .returned (.slice la n c') ∧ Below w.heap.size w w' ∧ OwnInts w' w.heap.size la n L := by
 cases ra with
 | none =>
  obtain rfl := hc rfl
  have h0 : n = 0 := by
   rcases Nat.eq_zero_or_pos n with h | h
   ·
    exact h
   ·
    obtain ⟨b, o, e, _⟩ := hL.2 0 h; simp at e
  subst h0
  have hl : Hid (L.length = 0) := hL.1
  clear hL hc
  have hnil := fun w => Lib.run_eql_slice_nil (P := Tryz.prog) w 22 3 none 0 0 0 0 Tryz.underlying22
  go_enter Tryz.func34, Tryz.ntmps34
  go_wp2
  go_ret
  exact ⟨none, 0, rfl, Below.refl _ _, hl.out, fun h => absurd h (by omega)⟩
 | some ad =>
  have hnil := fun w => Lib.run_eql_slice_nil (P := Tryz.prog) w 22 3 (some ad) n c 0 0 Tryz.underlying22
  obtain ⟨i0, hi, hz0, hz1, hz2⟩ := info_parts Tryz_infoInt
  have hnews : Hid (∀ (j : Nat) (u : Value), (L.map (Value.int .i64))[j]? = some u → (w.alloc (.cells #[] 3)).cell? (ad.add j) = some u) := by
   intro j u hj
   have hjn : j < n := by
    rw [← hL.1]
    rcases Nat.lt_or_ge j L.length with h | h
    ·
     exact h
    ·
     rw [List.getElem?_eq_none (by simpa using h)] at hj; simp at hj
   obtain ⟨b, o, e, hcell⟩ := hL.2 j hjn
   simp only [Option.some.injEq] at e
   subst e
   have e2 : (⟨b, o, none⟩ : Addr).add j = ⟨b, o + j, none⟩ := by unfold Addr.add; split <;> simp_all
   rw [e2, World.cell?_alloc_lt _ _ _ (cell_lt hcell), hcell]
   have hjl : j < L.length := by rw [hL.1]; exact hjn
   simp [hjl] at hj
   rw [← hj]
   simp [ix, List.getD_eq_getElem?_getD, hjl]
  have hlen : Hid ((L.map (Value.int .i64)).length = n * 1) := by simp [Hid, hL.1]
  have hone : Hid (∀ u ∈ L.map (Value.int .i64), u.oneCell' = true) := by
   intro u hu
   obtain ⟨x, _, rfl⟩ := List.mem_map.1 hu
   rfl
  have hb : n ≤ maxLen := by unfold maxLen; omega
  clear hL hc
  go_enter Tryz.func34, Tryz.ntmps34
  go_wp2_with (at_builtin; refine wpList_append_own _ rfl _ _ 22 rfl w.heap.size 3 i0 (.int .i64 0) 1 8 Tryz.underlying22 hi hz0 hz1 hz2 rfl (by decide) _ 0 [] rfl (World.ownsRow_made w #[] 0 (Nat.le_refl _) (by unfold maxLen; omega) rfl) ad n c (L.map (Value.int .i64)) rfl hlen.out hnews.out hone.out (by omega) (by omega) (by simp) ?_)
  intro v' w1 hown hgrow _
  have ho := OwnInts.of_row (L := L) (by simpa using hown)
  have hbel : Below w.heap.size w w1 := ((Below.refl _ _).alloc (Nat.le_refl _) _).grown hgrow (by simp) (fun k hk => by simp [Value.ownBlock] at hk; omega)
  obtain ⟨la, c', rfl, ho⟩ := ho
  have HO := Lib.hid ho
  clear hown hgrow ho
  go_wp2
  go_ret
  exact ⟨la, c', rfl, hbel, HO.out⟩
end Go.Proofs.YthabgljdndbphaaGreatDoor

namespace Go.Proofs.YthabgljdndbphaaGreatDoor
open Go.RowKit

/-- A block of cells that holds pairs of integers. -/
def PairRow (w : World) (g : Nat) (T : TypeId) (S : List (Int × Int)) : Prop :=
 ∃ arr : Array Value, w.heap[g]? = some (.cells arr T (0, 0)) ∧ S.length * 2 ≤ arr.size ∧ ∀ k, k < S.length → arr[k * 2]? = some (.int .i64 (gs S k)) ∧ arr[k * 2 + 1]? = some (.int .i64 (gv S k))

theorem PairRow.lt {w : World} {g : Nat} {T : TypeId} {S : List (Int × Int)} (h : PairRow w g T S) : g < w.heap.size :=
 let ⟨_, e, _⟩ := h; lt_of_block e

theorem PairRow.of_heap {w w' : World} {g : Nat} {T : TypeId} {S : List (Int × Int)} (h : PairRow w g T S) (e : w'.heap[g]? = w.heap[g]?) : PairRow w' g T S := by
 obtain ⟨arr, e1, r⟩ := h
 exact ⟨arr, e.trans e1, r⟩

theorem IntRow.of_heap {w w' : World} {g : Nat} {T : TypeId} {S : List Int} (h : IntRow w g T S) (e : w'.heap[g]? = w.heap[g]?) : IntRow w' g T S := by
 obtain ⟨arr, e1, r⟩ := h
 exact ⟨arr, e.trans e1, r⟩

theorem PairRow.cell1 {w : World} {g : Nat} {T : TypeId} {S : List (Int × Int)} (h : PairRow w g T S) (k : Nat) (hk : k < S.length) : w.cell? ⟨g, k * 2, none⟩ = some (.int .i64 (gs S k)) := by
 obtain ⟨arr, e, _, c⟩ := h
 simp only [World.cell?, e]
 exact (c k hk).1

theorem PairRow.cell2 {w : World} {g : Nat} {T : TypeId} {S : List (Int × Int)} (h : PairRow w g T S) (k : Nat) (hk : k < S.length) : w.cell? ⟨g, k * 2 + 1, none⟩ = some (.int .i64 (gv S k)) := by
 obtain ⟨arr, e, _, c⟩ := h
 simp only [World.cell?, e]
 exact (c k hk).2

theorem PairRow.free {w : World} {g : Nat} {T : TypeId} {S : List (Int × Int)} (h : PairRow w g T S) (k : Nat) : w.frozen? ⟨g, k, none⟩ = false := by
 obtain ⟨arr, e, _, c⟩ := h
 simp only [World.frozen?, e]
 simp





theorem PairRow.pairs {w : World} {g : Nat} {T : TypeId} {S : List (Int × Int)} (h : PairRow w g T S) : Pairs w (some ⟨g, 0, none⟩) S.length S :=
 ⟨rfl, fun k hk => ⟨g, 0, rfl, by rw [Nat.zero_add]; exact h.cell1 k hk, by rw [Nat.zero_add]; exact h.cell2 k hk⟩⟩


theorem PairRow.made {w : World} {arr : Array Value} {T : TypeId} {n g : Nat} (hg : g = w.heap.size) (hs : arr.size = n * 2) (hz : ∀ k, k < n * 2 → arr[k]? = some (.int .i64 0)) : PairRow (w.alloc (.cells arr T)) g T (List.replicate n (0, 0)) := by
 subst hg
 refine ⟨arr, ?_, by simp [hs], fun k hk => ?_⟩
 ·
  show (w.heap.push _)[w.heap.size]? = _
  simp
 ·
  rw [List.length_replicate] at hk
  rw [hz _ (by omega), hz _ (by omega)]
  simp [gs, gv, List.getD_eq_getElem?_getD, hk]

def Box (w : World) (b : Nat) (T : TypeId) (vs : Array Value) : Prop := w.heap[b]? = some (.cells vs T (0, 0))

theorem Box.cell {w : World} {b : Nat} {T : TypeId} {vs : Array Value} (h : Box w b T vs) (k : Nat) : w.cell? ⟨b, k, none⟩ = vs[k]? := by
 unfold Box at h
 simp only [World.cell?, h]
 simp

theorem Box.free {w : World} {b : Nat} {T : TypeId} {vs : Array Value} (h : Box w b T vs) (k : Nat) : w.frozen? ⟨b, k, none⟩ = false := by
 unfold Box at h
 simp only [World.frozen?, h]
 simp

theorem Box.of_heap {w w' : World} {b : Nat} {T : TypeId} {vs : Array Value} (h : Box w b T vs) (e : w'.heap[b]? = w.heap[b]?) : Box w' b T vs := e.trans h

theorem Box.new {w : World} {b : Nat} {T : TypeId} {vs : Array Value} (hb : b = w.heap.size) : Box (w.alloc (.cells vs T)) b T vs := by
 subst hb
 show (w.heap.push _)[w.heap.size]? = _
 simp

theorem Box.alloc {w : World} {b : Nat} {T : TypeId} {vs : Array Value} (h : Box w b T vs) (o : Obj) : Box (w.alloc o) b T vs :=
 h.of_heap (Below.heap_alloc _ _ _ (lt_of_block h))

theorem Box.below {w w' : World} {b : Nat} {T : TypeId} {vs : Array Value} (h : Box w b T vs) (hb : Below w.heap.size w w') : Box w' b T vs :=
 h.of_heap (hb.block _ (lt_of_block h))

theorem Box.set {w : World} {b : Nat} {T : TypeId} {vs : Array Value} (h : Box w b T vs) (k : Nat) (v : Value) : Box (w.setCell ⟨b, k, none⟩ v) b T (vs.setIfInBounds k v) := by
 unfold Box at *
 simp [World.setCell, Array.getElem?_modify, h]

theorem heap_set {w : World} {b k : Nat} {v : Value} (g : Nat) (h : g ≠ b) : (w.setCell ⟨b, k, none⟩ v).heap[g]? = w.heap[g]? := Below.heap_setCell _ _ _ _ h



structure PackSt where
 left : List Int
 spots : List (Int × Int)
 value : Int




end Go.Proofs.YthabgljdndbphaaGreatDoor
