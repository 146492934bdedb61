/- pack: the small functions over runs: seat, the tests, slices.Clone, IndexFunc, ContainsFunc; Numerals: their digits, their value; pack: plain: a text tells a group and the runs, whatever their order is. -/
import Derived.Test.YthabgljdndbphaaGreatDoorQPKM04
import Derived.Test.YthabgljdndbphaaGreatDoorQPKM19
import Derived.Lib.ItoaNum

set_option linter.unusedVariables false
set_option linter.unusedSimpArgs false
namespace Go.Proofs.YthabgljdndbphaaGreatDoor
open Go.RowKit Go.IntWalk
set_option linter.unusedSimpArgs false
set_option linter.unusedVariables false

set_option maxRecDepth 100000 in
theorem one1_any (w : World) (r : Int × Bool) : Calls Tryz.prog 59 #[.agg #[.int .i64 r.1, .bool r.2]] w fun e w' => e = .returned (.bool (oneP r)) ∧ Below w.heap.size w w' := by
 obtain ⟨x, u⟩ := r
 dsimp only
 refine enter_fr (N := 10) [.agg #[.int .i64 x, .bool u]] (Tryz.func59) rfl Tryz.ntmps59 (by rfl) (fun a hF => ?_);replace hF := hF.kp [0] rfl;refine wp_seq_k (fun K hK => ?_);refine region_seq (l := [0, 1]) (by kernel_rfl) ?_;refine seq_one ?_;revert hF;refine qe1 fun a hF => ?_
 have c0 : (w.alloc (.cells #[.int .i64 x, .bool u] 63)).cell? ⟨w.heap.size, 0, none⟩ = some (.int .i64 x) := boxed_cell (heap_new _ _) rfl
 have c1 : (w.alloc (.cells #[.int .i64 x, .bool u] 63)).cell? ⟨w.heap.size, 1, none⟩ = some (.bool u) := boxed_cell (heap_new _ _) rfl
 have HB : Hid (Below w.heap.size w (w.alloc (.cells #[.int .i64 x, .bool u] 63))) := Joins.below_alloc1 w _
 revert hF;refine zre 1 [2] [1] fun a hF => ?_;refine hK _ _ ?_;clear hK
 generalize w.alloc (.cells #[.int .i64 x, .bool u] 63) = w1 at *
 obtain ⟨gb, hg⟩ : ∃ g, g = w.heap.size := ⟨_, rfl⟩
 rw [← hg] at hF c0 c1
 clear hg
 cases u
 ·
  revert hF;refine zrs [4, 4, 1, 0, 0, 0, 5, 2] [2] fun a hF => ?_;refine wp_ret ?_;(try simp only [then_ret, block_ret, goto_ret]);revert hF;refine zq ?_
  exact ⟨rfl, HB.out⟩
 ·
  by_cases h : x = 1
  ·
   have hq : (x == 1) = true := by simpa using h
   revert hF;refine zrs [4, 4, 1, 4, 4, 4, 5, 2] [2] fun a hF => ?_;refine wp_ret ?_;(try simp only [then_ret, block_ret, goto_ret]);revert hF;refine zq ?_
   exact ⟨by unfold oneP; simp [h, tupF], HB.out⟩
  ·
   have hq : (x == 1) = false := by simpa using h
   revert hF;refine zrs [4, 4, 1, 4, 4, 4, 5, 2] [2] fun a hF => ?_;refine wp_ret ?_;(try simp only [then_ret, block_ret, goto_ret]);revert hF;refine zq ?_
   exact ⟨by unfold oneP; simp [h, tupF], HB.out⟩

set_option maxRecDepth 100000 in
theorem one2_any (w : World) (r : Int × Bool) : Calls Tryz.prog 46 #[.agg #[.int .i64 r.1, .bool r.2]] w fun e w' => e = .returned (.bool (oneP r)) ∧ Below w.heap.size w w' := by
 obtain ⟨x, u⟩ := r
 dsimp only
 refine enter_fr (N := 10) [.agg #[.int .i64 x, .bool u]] (Tryz.func46) rfl Tryz.ntmps46 (by rfl) (fun a hF => ?_);replace hF := hF.kp [0] rfl;refine wp_seq_k (fun K hK => ?_);refine region_seq (l := [0, 1]) (by kernel_rfl) ?_;refine seq_one ?_;revert hF;refine qe1 fun a hF => ?_
 have c0 : (w.alloc (.cells #[.int .i64 x, .bool u] 63)).cell? ⟨w.heap.size, 0, none⟩ = some (.int .i64 x) := boxed_cell (heap_new _ _) rfl
 have c1 : (w.alloc (.cells #[.int .i64 x, .bool u] 63)).cell? ⟨w.heap.size, 1, none⟩ = some (.bool u) := boxed_cell (heap_new _ _) rfl
 have HB : Hid (Below w.heap.size w (w.alloc (.cells #[.int .i64 x, .bool u] 63))) := Joins.below_alloc1 w _
 revert hF;refine zre 1 [2] [1] fun a hF => ?_;refine hK _ _ ?_;clear hK
 generalize w.alloc (.cells #[.int .i64 x, .bool u] 63) = w1 at *
 obtain ⟨gb, hg⟩ : ∃ g, g = w.heap.size := ⟨_, rfl⟩
 rw [← hg] at hF c0 c1
 clear hg
 cases u
 ·
  revert hF;refine zrs [4, 4, 1, 0, 0, 0, 5, 2] [2] fun a hF => ?_;refine wp_ret ?_;(try simp only [then_ret, block_ret, goto_ret]);revert hF;refine zq ?_
  exact ⟨rfl, HB.out⟩
 ·
  by_cases h : x = 1
  ·
   have hq : (x == 1) = true := by simpa using h
   revert hF;refine zrs [4, 4, 1, 4, 4, 4, 5, 2] [2] fun a hF => ?_;refine wp_ret ?_;(try simp only [then_ret, block_ret, goto_ret]);revert hF;refine zq ?_
   exact ⟨by unfold oneP; simp [h, tupF], HB.out⟩
  ·
   have hq : (x == 1) = false := by simpa using h
   revert hF;refine zrs [4, 4, 1, 4, 4, 4, 5, 2] [2] fun a hF => ?_;refine wp_ret ?_;(try simp only [then_ret, block_ret, goto_ret]);revert hF;refine zq ?_
   exact ⟨by unfold oneP; simp [h, tupF], HB.out⟩

set_option maxRecDepth 100000 in
theorem index_run (w : World) (ra : Option Addr) (n c : Nat) (xs : List (Int × Bool)) (h : Recs RunE w ra n xs) (hn : n ≤ 9223372036854775807) (fid : FuncId) (cap : List Value) (p : (Int × Bool) → Bool) (hpl : plainB Tryz.prog fid = true)
  (hf : ∀ wx, Below w.heap.size w wx → ∀ i (hi : i < xs.length), Calls Tryz.prog fid (.agg #[.int .i64 xs[i].1, .bool xs[i].2] :: cap).toArray wx fun e w' => e = .returned (.bool (p xs[i])) ∧ Below wx.heap.size wx w') :
  Calls Tryz.prog 45 #[.slice ra n c, .func (.func fid) #[] cap.toArray] w fun e w' => e = .returned (.int .i64 (idxS p xs)) ∧ Below w.heap.size w w' := by
 obtain rfl : xs.length = n := h.1
 have HR := Lib.hid h
 have HF := Lib.hid hf
 clear h hf
 refine enter_fr (N := 19) [.slice ra xs.length c, .func (.func fid) #[] cap.toArray] (Tryz.func45) rfl Tryz.ntmps45 (by rfl) (fun a hF => ?_);replace hF := hF.kp [0, 1] rfl;revert hF;refine zrs [2] [0, 1] fun a hF => ?_;refine wp_seq_k (fun KA hKA => ?_);revert hF;refine zrs [1, 4, 1] [0, 1, 7, 8] fun a hF => ?_
 refine wp_block ?_
 refine loop_fr (fun k a' w' => ∃ i : Nat, i + k = xs.length ∧ FrF 19 [] [(0, .slice ra xs.length c), (1, .func (.func fid) #[] cap.toArray), (7, .int .i64 xs.length), (8, .int .i64 i)] a' ∧ Hid (Below w.heap.size w w') ∧ Hid (∀ j (hj : j < xs.length), j < i → p xs[j] = false)) xs.length ⟨0, by omega, hF, Below.refl _ _, fun j _ hj => absurd hj (Nat.not_lt_zero _)⟩ ?_
 clear hF
 rintro rk a wr ⟨i, hik, hF, HB, HP⟩ KB hKB
 by_cases hlt : i < xs.length
 rotate_left
 ·
  revert hF;refine zrs [5] [0, 1, 7, 8, 9] fun a hF => ?_;refine wp_seq_k (fun K hK => ?_)
  refine cond_no hF rfl ?_
  refine wp_exit ?_
  refine hKA _ _ ?_;clear hKA;revert hF;refine zrs [2] [4] fun a hF => ?_;refine wp_ret ?_;(try simp only [then_ret, block_ret, goto_ret]);revert hF;refine zq ?_
  exact ⟨by rw [idx_none fun j hj => HP.out j hj (by omega)]; rfl, HB.out⟩
 revert hF;refine zrs [5] [0, 1, 7, 8, 9] fun a hF => ?_;refine wp_seq_k (fun K hK => ?_)
 refine cond_yes hF rfl ?_
 refine wp_skip ?_
 refine hK _ _ ?_;clear hK;replace hF := hF.kp [0, 1, 7, 8] rfl;refine wp_seq_k (fun K hK => ?_)
 refine wp_block ?_
 revert hF;refine zrs [1, 2] [0, 1, 5, 7, 8] fun a hF => ?_
 obtain ⟨b, o, rfl, c0, c1⟩ := run_at (HR.out.below HB.out) i hlt hlt
 have hki : (i : Int) < xs.length := by omega
 have HFI := Lib.hid (HF.out wr HB.out i hlt)
 have HPI : Hid (p xs[i] = false → ∀ j (hj : j < xs.length), j < i + 1 → p xs[j] = false) := fun he j hj hji => by
  by_cases e : j = i
  ·
   subst e; exact he
  ·
   exact HP.out j hj (by omega)
 have HPH : Hid (p xs[i] = true → idxS p xs = i) := fun he => idx_hit hlt he HP.out
 generalize xs[i] = x at *
 generalize p x = px at *
 refine wp_seq_k (fun K hK => ?_);revert hF;refine zrp [1, 1, 1, 5, 4] [5] fun a hF => ?_;refine seq_one ?_;refine op_callv [_] _ _ rfl rfl hF rfl rfl (by first | assumption | kernel_rfl) ⟨rfl, trivial⟩ (fun K hK => ?_);clear hF
 refine HFI.out.mono ?_
 rintro e w' ⟨rfl, hb⟩
 clear HFI c0 c1
 have HB2 : Hid (Below w.heap.size w w') := HB.out.trans (hb.mono HB.out.size)
 clear hb HB
 cases px
 ·
  refine hK _ _ (fun a hF => ?_);clear hK K;refine seq_end ?_;replace hF := hF.kp [0, 1, 5, 7, 8, 16] rfl;refine hK _ _ ?_;clear hK
  refine cond_no hF rfl ?_
  refine wp_skip ?_
  refine hK _ _ ?_
  clear hK
  have hws : IntKind.i64.wrap ((i : Int) + 1) = ((i + 1 : Nat) : Int) := wrap_succ (by omega)
  revert hF;refine zrg [4, 1] [0, 1, 7, 8] fun a hF => ?_
  exact hKB (xs.length - (i + 1)) _ _ (by omega) ⟨i + 1, by omega, hF, HB2, HPI.out rfl⟩
 ·
  refine hK _ _ (fun a hF => ?_);clear hK K;refine seq_end ?_;replace hF := hF.kp [0, 1, 5, 7, 8, 16] rfl;refine hK _ _ ?_;clear hK
  refine cond_yes hF rfl ?_
  revert hF;refine zrs [1, 2] [4] fun a hF => ?_;refine wp_ret ?_;(try simp only [then_ret, block_ret, goto_ret]);revert hF;refine zq ?_
  exact ⟨by rw [HPH.out rfl]; rfl, HB2.out⟩

set_option maxRecDepth 100000 in
theorem contains_run (w : World) (ra : Option Addr) (n c : Nat) (xs : List (Int × Bool)) (h : Recs RunE w ra n xs) (hn : n ≤ 9223372036854775807) (fid : FuncId) (cap : List Value) (p : (Int × Bool) → Bool) (hpl : plainB Tryz.prog fid = true)
  (hf : ∀ wx, Below w.heap.size w wx → ∀ i (hi : i < xs.length), Calls Tryz.prog fid (.agg #[.int .i64 xs[i].1, .bool xs[i].2] :: cap).toArray wx fun e w' => e = .returned (.bool (p xs[i])) ∧ Below wx.heap.size wx w') :
  Calls Tryz.prog 58 #[.slice ra n c, .func (.func fid) #[] cap.toArray] w fun e w' => e = .returned (.bool (xs.any p)) ∧ Below w.heap.size w w' := by
 have HC := Lib.hid (index_run w ra n c xs h hn fid cap p hpl hf)
 have HA := Lib.hid (idx_any p xs)
 clear h hf
 generalize idxS p xs = r at *
 generalize xs.any p = y at *
 have HA2 := HA.out
 clear HA
 refine enter_fr (N := 9) [.slice ra n c, .func (.func fid) #[] cap.toArray] (Tryz.func58) rfl Tryz.ntmps58 (by rfl) (fun a hF => ?_);replace hF := hF.kp [0, 1] rfl;revert hF;refine zrs [2] [0, 1] fun a hF => ?_;refine wp_seq_k (fun K hK => ?_);revert hF;refine zrp [1, 1] [2, 3, 4] fun a hF => ?_;revert hF;refine zos fun K hK => ?_
 refine HC.out.mono ?_
 rintro e w' ⟨rfl, hb⟩
 clear HC
 refine hK _ _ (fun a hF => ?_);clear hK K;revert hF;refine zre 3 [4, 2] [4] fun a hF => ?_;refine hK _ _ ?_;clear hK;refine wp_ret ?_;(try simp only [then_ret, block_ret, goto_ret]);revert hF;refine zq ?_
 exact ⟨rfl, hb⟩

theorem clone_run (ra : Option Addr) (n c : Nat) (l : List (Int × Bool)) (w : World) (hM : Recs RunE w ra n l) (hn : n ≤ 4000) :
  Calls Tryz.prog 61 #[.slice ra n c] w fun e w' => ∃ la k c', e = .returned (.slice la k c') ∧ Below w.heap.size w w' ∧ OwnRecs RunE w' w.heap.size 63 la k l := by
 have hlen := hM.1
 cases ra with
 | none =>
  have h0 : n = 0 := by
   rcases Nat.eq_zero_or_pos n with h | h
   ·
    exact h
   ·
    obtain ⟨b, o, e, _⟩ := hM.2 0 h; simp at e
  have hl : l = [] := List.length_eq_zero_iff.mp (by omega)
  subst hl
  subst h0
  have hnil := fun w => Lib.run_eql_slice_nil (P := Tryz.prog) w 61 63 none 0 c 0 0 Tryz.underlying61
  go_enter Tryz.func61, Tryz.ntmps61
  go_wp2_with fail
  go_ret
  exact ⟨none, 0, 0, rfl, Below.refl _ _, ⟨rfl, fun h => absurd h (Nat.lt_irrefl _)⟩⟩
 | some ad =>
  have hnil := fun w => Lib.run_eql_slice_nil (P := Tryz.prog) w 61 63 (some ad) n c 0 0 Tryz.underlying61
  have HM := Lib.hid (hM.below (Joins.below_alloc1 w (.cells #[] 63)))
  clear hM
  obtain ⟨i1, hj, hj0, hj1, hj2⟩ := info_parts info_run
  have HOW := Lib.hid (World.ownsRow_made (e := 63) (size := 2) w #[] 0 (Nat.le_refl _) (by unfold maxLen; omega) rfl)
  have hfl : (flat RunE l).length = n * 2 := by rw [flat_len, hlen]
  have HFC := Lib.hid (flat_cells HM.out)
  go_enter Tryz.func61, Tryz.ntmps61
  go_wp2_with (at_builtin; refine wpList_append_own _ rfl _ _ 61 rfl w.heap.size 63 i1 _ 2 16 Tryz.underlying61 hj hj0 hj1 hj2 rfl (by decide) _ 0 [] rfl HOW.out ad n c (flat RunE l) rfl hfl HFC.out flat_one (by unfold maxLen; omega) (by omega) (by simp) ?_; skip)
  intro v' w3 hown' hgrow _
  have HN := Lib.hid (And.intro hown' hgrow)
  clear hown' hgrow
  obtain ⟨la, c', rfl, ho⟩ := OwnRecs.of_row HN.out.1
  have HO := Lib.hid ho
  clear ho
  go_wp2_with fail
  go_ret
  exact ⟨la, n, c', rfl, ((Below.refl _ _).alloc (Nat.le_refl _) _).grown HN.out.2 (by simp) (fun k hk => by simp [Value.ownBlock] at hk; omega), HO.out⟩


theorem sit_eq (L : List (Int × Bool)) (i : Nat) (hi : i < L.length) (s : Int) : sitF L i s = L.set i (L[i].1 - s, true) := by
 unfold sitF
 have : L.getD i (0, false) = L[i] := by simp [hi]
 rw [this]

set_option maxRecDepth 100000 in
set_option maxHeartbeats 4000000 in
theorem seat_any (w : World) (la : Option Addr) (n c : Nat) (L : List (Int × Bool)) (i : Nat) (s : Int) (h : Recs RunE w la n L) (hn : n ≤ 4000) (hi : i < n) (hs : 0 ≤ s ∧ s ≤ 12) (hr : ∀ r ∈ L, -4000 ≤ r.1 ∧ r.1 ≤ 4000) :
  Calls Tryz.prog 44 #[.slice la n c, .int .i64 i, .int .i64 s] w fun e w' => ∃ g c', e = .returned (.slice (some ⟨g, 0, none⟩) n c') ∧ Below w.heap.size w w' ∧ w.heap.size ≤ g ∧ (sitF L i s).length = n ∧ RecRow RunE w' g 63 (sitF L i s) := by
 have hL := h.1
 have HC := Lib.hid (clone_run la n c L w h hn)
 have hri := hr L[i] (List.getElem_mem (by omega))
 clear h hr
 refine enter_fr (N := 22) [.slice la n c, .int .i64 i, .int .i64 s] (Tryz.func44) rfl Tryz.ntmps44 (by rfl) (fun a hF => ?_);replace hF := hF.kp [0, 1, 2] rfl;revert hF;refine zrs [2] [0, 1, 2] fun a hF => ?_;refine wp_seq_k (fun K hK => ?_);revert hF;refine zrp [1] [1, 2] fun a hF => ?_;revert hF;refine zos fun K hK => ?_
 refine HC.out.mono ?_
 rintro e w1 ⟨lb, k, c', rfl, hb, ho⟩
 clear HC
 have hk : k = n := by rw [← ho.1, hL]
 subst k
 obtain ⟨g, rfl, hg, hrow⟩ := ho.2 (by omega)
 clear ho
 refine hK _ _ (fun a hF => ?_);clear hK K;revert hF;refine zre 2 [2] [1, 2, 7] fun a hF => ?_;refine hK _ _ ?_;clear hK;refine wp_seq_k (fun K hK => ?_)
 have hil : i < L.length := by omega
 have c0 := hrow.cell i 0 hil (by omega)
 have c1 := hrow.cell i 1 hil (by omega)
 have f0 := hrow.free (i * 2)
 have f1 := hrow.free (i * 2 + 1)
 rw [rc_eq _ _ hil] at c0 c1
 change w1.cell? ⟨g, i * 2, none⟩ = some (.int .i64 L[i].1) at c0
 change w1.cell? ⟨g, i * 2 + 1, none⟩ = some (.bool L[i].2) at c1
 have HR := Lib.hid hrow
 have HB := Lib.hid hb
 have HG := Lib.hid hg
 have hin : (i : Int) < n := by omega
 have HE := Lib.hid (sit_eq L i hil s)
 have hlr : L[i] = (L[i].1, L[i].2) := rfl
 have HH : Hid (RecRow RunE ((w1.setCell ⟨g, i * 2, none⟩ (.int .i64 (L[i].1 - s))).setCell ⟨g, i * 2 + 1, none⟩ (.bool true)) g 63 (sitF L i s)) := by
  rw [HE.out]
  have h1 := hrow.put i 0 (L[i].1 - s, L[i].2) (.int .i64 (L[i].1 - s)) hil (by omega) (fun q hq => by
   rw [rc_eq _ _ hil]
   match q, hq with
   | 0, _ => rfl
   | 1, _ => rfl)
  have h2 := h1.put i 1 (L[i].1 - s, true) (.bool true) (by rw [List.length_set]; exact hil) (by omega) (fun q hq => by
   rw [rc_eq _ _ (by rw [List.length_set]; exact hil), List.getElem_set_self]
   match q, hq with
   | 0, _ => rfl
   | 1, _ => rfl)
  rw [List.set_set] at h2
  exact h2
 clear hrow hlr
 generalize L[i] = r at *
 have hws : IntKind.i64.wrap (r.1 - s) = r.1 - s := wrap_in (by omega) (by omega)
 have HB2 : Hid (Below w.heap.size w ((w1.setCell ⟨g, i * 2, none⟩ (.int .i64 (r.1 - s))).setCell ⟨g, i * 2 + 1, none⟩ (.bool true))) := (hb.setCell (by show _ ≤ g; exact hg) _).setCell (by show _ ≤ g; exact hg) _
 revert hF;refine zrp [1, 1, 1, 1, 5, 4, 4, 1, 5, 4, 5] [11] fun a hF => ?_;refine seq_one ?_;revert hF;refine qu2 fun a hF => ?_;refine seq_end ?_;replace hF := hF.kp [7] rfl;refine hK _ _ ?_;clear hK
 generalize (w1.setCell ⟨g, i * 2, none⟩ (.int .i64 (r.1 - s))).setCell ⟨g, i * 2 + 1, none⟩ (.bool true) = w2 at *
 revert hF;refine zrs [1, 2] [6] fun a hF => ?_;refine wp_ret ?_;(try simp only [then_ret, block_ret, goto_ret]);revert hF;refine zq ?_
 exact ⟨g, c', rfl, HB2.out, HG.out, by rw [sit_len, hL], HH.out⟩
end Go.Proofs.YthabgljdndbphaaGreatDoor

namespace Go.Proofs.YthabgljdndbphaaGreatDoor
open Go.Lib

def IsDig (b : UInt8) : Prop := 48 ≤ b.toNat ∧ b.toNat ≤ 57

def valD (acc : Nat) (l : List UInt8) : Nat := l.foldl (fun a b => a * 10 + (b.toNat - 48)) acc

theorem valD_append (acc : Nat) (A B : List UInt8) : valD acc (A ++ B) = valD (valD acc A) B := by unfold valD; rw [List.foldl_append]


theorem dig_of {k : Nat} (h : k < 10) : (UInt8.ofNat (48 + k)).toNat = 48 + k := by
 rw [UInt8.toNat_ofNat']
 omega

theorem decDigits_spec : ∀ u : Nat, (∀ b ∈ decDigits u, IsDig b) ∧ valD 0 (decDigits u) = u ∧ decDigits u ≠ [] := by
 intro u
 induction u using Nat.strongRecOn with
 | _ u ih =>
  by_cases h : u < 10
  ·
   rw [decDigits, dif_pos h]
   refine ⟨fun b hb => ?_, ?_, by simp⟩
   ·
    rw [List.mem_singleton.mp hb]; unfold IsDig; rw [dig_of h]; omega
   ·
    unfold valD; simp only [List.foldl_cons, List.foldl_nil]; rw [dig_of h]; omega
  ·
   have i := ih (u / 10) (by omega)
   have hm : u % 10 < 10 := Nat.mod_lt _ (by decide)
   rw [decDigits, dif_neg h]
   refine ⟨fun b hb => ?_, ?_, by simp⟩
   ·
    rcases List.mem_append.mp hb with hb | hb
    ·
     exact i.1 b hb
    ·
     rw [List.mem_singleton.mp hb]; unfold IsDig; rw [dig_of hm]; omega
   ·
    rw [valD_append, i.2.1]
    unfold valD; simp only [List.foldl_cons, List.foldl_nil]; rw [dig_of hm]; omega

end Go.Proofs.YthabgljdndbphaaGreatDoor

namespace Go.Proofs.YthabgljdndbphaaGreatDoor
open Go.Lib
set_option linter.unusedSimpArgs false
set_option linter.unusedVariables false

/-- A run's text: its room, and a letter where somebody sits. -/
def runT (r : Int × Bool) : List UInt8 := decDigits r.1.toNat ++ (if r.2 then [117] else [])
/-- Texts with a blank between them. -/
def tailJ : List (List UInt8) → List UInt8
 | [] => []
 | s :: t => 32 :: (s ++ tailJ t)
def joinJ : List (List UInt8) → List UInt8
 | [] => []
 | s :: t => s ++ tailJ t
/-- A text for a group and runs. -/
def IsText (g : Nat) (L : List (Int × Bool)) (t : List UInt8) : Prop := ∃ ss : List (List UInt8), ss.Perm (L.map runT) ∧ t = decDigits g ++ 58 :: joinJ ss

theorem cutc_at {c : UInt8} : ∀ {a b x y : List UInt8}, c ∉ a → c ∉ b → a ++ x = b ++ y → (x = [] ∨ ∃ x', x = c :: x') → (y = [] ∨ ∃ y', y = c :: y') → a = b ∧ x = y
 | [], [], x, y, _, _, h, _, _ => ⟨rfl, h⟩
 | [], p :: b, x, y, _, hb, h, hx, _ => by
  rcases hx with rfl | ⟨x', rfl⟩
  ·
   cases h
  ·
   simp only [List.nil_append, List.cons_append, List.cons.injEq] at h
   exact absurd (by rw [h.1]; exact List.mem_cons_self ..) hb
 | p :: a, [], x, y, ha, _, h, _, hy => by
  rcases hy with rfl | ⟨y', rfl⟩
  ·
   cases h
  ·
   simp only [List.nil_append, List.cons_append, List.cons.injEq] at h
   exact absurd (by rw [h.1]; exact List.mem_cons_self ..) ha
 | p :: a, q :: b, x, y, ha, hb, h, hx, hy => by
  simp only [List.cons_append, List.cons.injEq] at h
  obtain ⟨h1, h2⟩ := cutc_at (fun e => ha (List.mem_cons_of_mem _ e)) (fun e => hb (List.mem_cons_of_mem _ e)) h.2 hx hy
  exact ⟨by rw [h.1, h1], h2⟩

theorem dig_range {n : Nat} {b : UInt8} (h : b ∈ decDigits n) : b ≠ 32 ∧ b ≠ 58 ∧ b ≠ 117 := by
 have := (decDigits_spec n).1 b h
 unfold IsDig at this
 refine ⟨?_, ?_, ?_⟩ <;> rintro rfl <;> revert this <;> decide
theorem dec_inj {m n : Nat} (h : decDigits m = decDigits n) : m = n := by
 rw [← (decDigits_spec m).2.1, h, (decDigits_spec n).2.1]
theorem runT_ne (r : Int × Bool) : runT r ≠ [] := by
 unfold runT
 have := (decDigits_spec r.1.toNat).2.2
 intro h
 exact this (List.append_eq_nil_iff.1 h).1
theorem runT_blank {r : Int × Bool} : (32 : UInt8) ∉ runT r := by
 unfold runT
 rw [List.mem_append]
 rintro (h | h)
 ·
  exact (dig_range h).1 rfl
 ·
  cases r.2 <;> simp at h
theorem runT_inj {r q : Int × Bool} (hr : 0 ≤ r.1) (hq : 0 ≤ q.1) (h : runT r = runT q) : r = q := by
 unfold runT at h
 have hx : ∀ b : Bool, (if b then [(117 : UInt8)] else []) = [] ∨ ∃ x', (if b then [(117 : UInt8)] else []) = 117 :: x' := fun b => by cases b <;> simp
 obtain ⟨h1, h2⟩ := cutc_at (fun e => (dig_range e).2.2 rfl) (fun e => (dig_range e).2.2 rfl) h (hx _) (hx _)
 have h3 := dec_inj h1
 obtain ⟨a, b⟩ := r
 obtain ⟨c, d⟩ := q
 dsimp only at *
 have : a = c := by omega
 subst this
 cases b <;> cases d <;> simp at h2 ⊢

theorem tailJ_head (t : List (List UInt8)) : tailJ t = [] ∨ ∃ x', tailJ t = 32 :: x' := by
 cases t with
 | nil => exact Or.inl rfl
 | cons s t => exact Or.inr ⟨_, rfl⟩
theorem tailJ_inj : ∀ {ss tt : List (List UInt8)}, (∀ s ∈ ss, (32 : UInt8) ∉ s) → (∀ s ∈ tt, (32 : UInt8) ∉ s) → tailJ ss = tailJ tt → ss = tt
 | [], [], _, _, _ => rfl
 | [], _ :: _, _, _, h => by cases h
 | _ :: _, [], _, _, h => by cases h
 | s :: ss, t :: tt, hs, ht, h => by
  simp only [tailJ, List.cons.injEq, true_and] at h
  obtain ⟨h1, h2⟩ := cutc_at (hs s (List.mem_cons_self ..)) (ht t (List.mem_cons_self ..)) h (tailJ_head _) (tailJ_head _)
  rw [h1, tailJ_inj (fun x hx => hs x (List.mem_cons_of_mem _ hx)) (fun x hx => ht x (List.mem_cons_of_mem _ hx)) h2]
theorem joinJ_inj {ss tt : List (List UInt8)} (hs : ∀ s ∈ ss, (32 : UInt8) ∉ s ∧ s ≠ []) (ht : ∀ s ∈ tt, (32 : UInt8) ∉ s ∧ s ≠ []) (h : joinJ ss = joinJ tt) : ss = tt := by
 cases ss with
 | nil =>
  cases tt with
  | nil => rfl
  | cons t tt =>
   have h1 : t ++ tailJ tt = [] := h.symm
   exact absurd (List.append_eq_nil_iff.1 h1).1 (ht t (List.mem_cons_self ..)).2
 | cons s ss =>
  cases tt with
  | nil =>
   have h1 : s ++ tailJ ss = [] := h
   exact absurd (List.append_eq_nil_iff.1 h1).1 (hs s (List.mem_cons_self ..)).2
  | cons t tt =>
   obtain ⟨h1, h2⟩ := cutc_at (hs s (List.mem_cons_self ..)).1 (ht t (List.mem_cons_self ..)).1 h (tailJ_head _) (tailJ_head _)
   rw [h1, tailJ_inj (fun x hx => (hs x (List.mem_cons_of_mem _ hx)).1) (fun x hx => (ht x (List.mem_cons_of_mem _ hx)).1) h2]

theorem map_perm_inj {f : Int × Bool → List UInt8} : ∀ {L M : List (Int × Bool)}, (∀ x ∈ L, ∀ y ∈ M, f x = f y → x = y) → (L.map f).Perm (M.map f) → L.Perm M
 | [], M, _, h => by
  have := h.length_eq
  simp only [List.map_nil, List.length_nil, List.length_map] at this
  rw [List.length_eq_zero_iff.1 this.symm]
 | x :: L, M, hi, h => by
  have hm : f x ∈ M.map f := h.subset (by simp)
  obtain ⟨y, hy, e⟩ := List.mem_map.1 hm
  have hxy := hi x (List.mem_cons_self ..) y hy e.symm
  subst hxy
  have hp : M.Perm (x :: M.erase x) := List.perm_cons_erase hy
  have h2 : (L.map f).Perm ((M.erase x).map f) := by
   have := h.trans (hp.map f)
   rw [List.map_cons, List.map_cons] at this
   exact this.cons_inv
  exact ((map_perm_inj (fun a ha b hb => hi a (List.mem_cons_of_mem _ ha) b (List.erase_subset hb)) h2).cons x).trans hp.symm

/-- The same text: the same group, the same runs but for their order. -/
theorem text_inj {g h : Nat} {L M : List (Int × Bool)} {t : List UInt8} (hL : ∀ r ∈ L, 0 ≤ r.1) (hM : ∀ r ∈ M, 0 ≤ r.1) (h1 : IsText g L t) (h2 : IsText h M t) : g = h ∧ L.Perm M := by
 obtain ⟨ss, p1, e1⟩ := h1
 obtain ⟨tt, p2, e2⟩ := h2
 rw [e1] at e2
 obtain ⟨q1, q2⟩ := cutc_at (fun e => (dig_range e).2.1 rfl) (fun e => (dig_range e).2.1 rfl) e2 (Or.inr ⟨_, rfl⟩) (Or.inr ⟨_, rfl⟩)
 have hs : ∀ {K : List (Int × Bool)} {ss : List (List UInt8)}, ss.Perm (K.map runT) → ∀ s ∈ ss, (32 : UInt8) ∉ s ∧ s ≠ [] := fun {K ss} p s hs => by
  obtain ⟨r, _, rfl⟩ := List.mem_map.1 (p.subset hs)
  exact ⟨runT_blank, runT_ne r⟩
 have q3 := joinJ_inj (hs p1) (hs p2) (List.cons.inj q2).2
 subst q3
 exact ⟨dec_inj q1, map_perm_inj (fun x hx y hy e => runT_inj (hL x hx) (hM y hy) e) (p1.symm.trans p2)⟩
end Go.Proofs.YthabgljdndbphaaGreatDoor
