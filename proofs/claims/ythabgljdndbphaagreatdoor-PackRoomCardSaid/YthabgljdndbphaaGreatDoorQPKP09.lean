/- B; fit.ranked, fit.fill, fit.Bound. -/
import Derived.Test.YthabgljdndbphaaGreatDoorQPKP01
import Derived.Test.YthabgljdndbphaaGreatDoorQPKP08
import Derived.Test.YthabgljdndbphaaGreatDoorProg
import Derived.Deep.OwnRows

set_option linter.unusedVariables false
set_option linter.unusedSimpArgs false
namespace Go.Proofs.YthabgljdndbphaaGreatDoor
open Go.RowKit

def gs (l : List (Int × Int)) (i : Nat) : Int := (l.getD i (0, 0)).1
def gv (l : List (Int × Int)) (i : Nat) : Int := (l.getD i (0, 0)).2

/-- The address and length read as the pairs of integers xs. -/
def Pairs (w : World) (ra : Option Addr) (n : Nat) (xs : List (Int × Int)) : Prop :=
 xs.length = n ∧ ∀ k, k < n → ∃ b o, ra = some ⟨b, o, none⟩ ∧ w.cell? ⟨b, o + k * 2, none⟩ = some (.int .i64 (gs xs k)) ∧ w.cell? ⟨b, o + k * 2 + 1, none⟩ = some (.int .i64 (gv xs k))

theorem Pairs.below {w w' : World} {ra : Option Addr} {n : Nat} {xs : List (Int × Int)} (h : Pairs w ra n xs) (hb : Below w.heap.size w w') : Pairs w' ra n xs :=
 ⟨h.1, fun k hk => let ⟨b, o, e, c, d⟩ := h.2 k hk; ⟨b, o, e, Below.cell_of hb c, Below.cell_of hb d⟩⟩

theorem ret_bool {a b : Bool} (h : a = b) : Ending.returned (.bool a) = Ending.returned (.bool b) := by rw [h]

def badG (s v : Int) : Bool := decide (s < 1) || decide (12 < s) || decide (v < 0) || decide (1000000 < v)

set_option maxHeartbeats 400000 in
theorem bad_any (s v : Int) (w : World) :
  Calls Tryz.prog 41 #[.agg #[.int .i64 s, .int .i64 v]] w fun e w' => e = .returned (.bool (badG s v)) ∧ Below w.heap.size w w' := by
 by_cases h1 : s < 1
 ·
  have H : Hid (badG s v = true) := by simp [Hid, badG, h1]
  go_enter Tryz.func41, Tryz.ntmps41
  go_wp2
  go_ret
  exact ⟨by rw [H.out]; rfl, (Below.refl _ _).alloc (Nat.le_refl _) _⟩
 ·
  by_cases h2 : 12 < s
  ·
   have H : Hid (badG s v = true) := by simp [Hid, badG, h2]
   go_enter Tryz.func41, Tryz.ntmps41
   go_wp2
   go_ret
   exact ⟨by rw [H.out]; rfl, (Below.refl _ _).alloc (Nat.le_refl _) _⟩
  ·
   by_cases h3 : v < 0
   ·
    have H : Hid (badG s v = true) := by simp [Hid, badG, h3]
    go_enter Tryz.func41, Tryz.ntmps41
    go_wp2
    go_ret
    exact ⟨by rw [H.out]; rfl, (Below.refl _ _).alloc (Nat.le_refl _) _⟩
   ·
    go_enter Tryz.func41, Tryz.ntmps41
    go_wp2
    go_ret
    exact ⟨ret_bool (by rw [badG, decide_eq_false (show ¬ s < 1 by omega), decide_eq_false (show ¬ 12 < s by omega), decide_eq_false (show ¬ v < 0 by omega)]; rfl), (Below.refl _ _).alloc (Nat.le_refl _) _⟩

/-- The first place from k on, of n, where p holds; -1 if there is none. -/
def firstAt (p : Nat → Bool) (k : Nat) : Nat → Int
 | 0 => -1
 | n + 1 => if p k then k else firstAt p (k + 1) n

theorem firstAt_step (p : Nat → Bool) (n i : Nat) (h : i < n) : firstAt p i (n - i) = if p i then (i : Int) else firstAt p (i + 1) (n - (i + 1)) := by
 obtain ⟨m, hm⟩ : ∃ m, n - i = m + 1 := ⟨n - i - 1, by omega⟩
 rw [hm, firstAt, show n - (i + 1) = m from by omega]

set_option maxRecDepth 10000 in
set_option maxHeartbeats 400000 in
theorem index_groups (f : Nat) (cap : Array Value) (p : Int → Int → Bool) (ra : Option Addr) (n c : Nat) (G : List (Int × Int)) (w : World)
  (hn : n ≤ 4000) (hcf : ∀ (args : Array Value) (w : World), (callFunc f args).run Tryz.prog w = .ok (.enter f args) w) (hG : Pairs w ra n G)
  (hcl : ∀ k wr, Below w.heap.size w wr → k < n → Calls Tryz.prog f (#[.agg #[.int .i64 (gs G k), .int .i64 (gv G k)]] ++ cap) wr fun e w' => e = .returned (.bool (p (gs G k) (gv G k))) ∧ Below wr.heap.size wr w') :
  Calls Tryz.prog 56 #[.slice ra n c, .func (.func f) #[] cap] w fun e w' => e = .returned (.int .i64 (firstAt (fun k => p (gs G k) (gv G k)) 0 n)) ∧ Below w.heap.size w w' := by
 go_enter Tryz.func56, Tryz.ntmps56
 go_wp2
 go_loopw [4, 5, 8] (fun _ _ k wr => ∃ i : Nat, i ≤ n ∧ k = .int .i64 i ∧ Below w.heap.size w wr ∧ Hid (firstAt (fun k => p (gs G k) (gv G k)) 0 n = firstAt (fun k => p (gs G k) (gv G k)) i (n - i)))
  (fun _ _ k _ => n - (intOf k).toNat)
 case atStart => exact ⟨0, Nat.zero_le _, rfl, Below.refl _ _, rfl⟩
 case round =>
  obtain ⟨i, hi, rfl, hb, HR⟩ := hrel
  by_cases hlt : i < n
  ·
   obtain ⟨b, o, rfl, r1, r2⟩ := (hG.below hb).2 i hlt
   have HC := Lib.hid (hcl i wr hb hlt)
   have HS := Lib.hid (firstAt_step (fun k => p (gs G k) (gv G k)) n i hlt)
   clear hG hcl
   obtain ⟨q, hq⟩ : ∃ q, q = p (gs G i) (gv G i) := ⟨_, rfl⟩
   rw [← hq] at HC HS
   clear hq
   go_wp2_with fail
   refine HC.out.mono ?_
   rintro e w1 ⟨rfl, hb1⟩
   have hb2 := Lib.hid (hb.trans (hb1.mono hb.size))
   clear hb hb1 r1 r2
   cases q
   ·
    go_wp2
    go_roundw
    case rel => exact ⟨i + 1, by omega, by go_num, hb2.out, by rw [HR.out, HS.out]; simp [Hid]⟩
    case measure => simp [intOf]; omega
   ·
    go_wp2
    go_ret
    exact ⟨by rw [HR.out, HS.out]; simp, hb2.out⟩
  ·
   go_wp2
   go_ret
   exact ⟨by rw [HR.out, show n - i = 0 from by omega]; rfl, hb⟩

theorem firstAt_any (p : Nat → Bool) (n : Nat) : ∀ k, decide (0 ≤ firstAt p k n) = (List.range' k n).any p := by
 induction n with
 | zero => intro k; simp [firstAt]
 | succ n ih =>
  intro k
  rw [firstAt, List.range'_succ, List.any_cons]
  cases h : p k
  ·
   simp [← ih]
  ·
   simp

set_option maxHeartbeats 400000 in
theorem contains_groups (f : Nat) (cap : Array Value) (p : Int → Int → Bool) (ra : Option Addr) (n c : Nat) (G : List (Int × Int)) (w : World)
  (hn : n ≤ 4000) (hcf : ∀ (args : Array Value) (w : World), (callFunc f args).run Tryz.prog w = .ok (.enter f args) w) (hG : Pairs w ra n G)
  (hcl : ∀ k wr, Below w.heap.size w wr → k < n → Calls Tryz.prog f (#[.agg #[.int .i64 (gs G k), .int .i64 (gv G k)]] ++ cap) wr fun e w' => e = .returned (.bool (p (gs G k) (gv G k))) ∧ Below wr.heap.size wr w') :
  Calls Tryz.prog 42 #[.slice ra n c, .func (.func f) #[] cap] w fun e w' => e = .returned (.bool ((List.range n).any fun k => p (gs G k) (gv G k))) ∧ Below w.heap.size w w' := by
 have H := Lib.hid (index_groups f cap p ra n c G w hn hcf hG hcl)
 have HF : Hid (decide (0 ≤ firstAt (fun k => p (gs G k) (gv G k)) 0 n) = (List.range n).any fun k => p (gs G k) (gv G k)) := by rw [Hid, firstAt_any, List.range_eq_range']
 clear hcl hG
 generalize firstAt (fun k => p (gs G k) (gv G k)) 0 n = z at *
 go_enter Tryz.func42, Tryz.ntmps42
 go_wp2_with fail
 refine H.out.mono ?_
 rintro e w1 ⟨rfl, hb1⟩
 have hb := Lib.hid hb1
 clear hb1
 go_wp2
 go_ret
 exact ⟨ret_bool (by rw [← HF.out]), hb.out⟩

/-- The lengths of the runs add up to at most a length. -/
def runsOk (left : Int) : List Int → Bool
 | [] => true
 | n :: l => if n < 1 ∨ left < n then false else runsOk (left - n) l

def groupsOk (G : List (Int × Int)) : Bool := !(G.any fun g => badG g.1 g.2)

def validS (R : List Int) (G : List (Int × Int)) : Bool := runsOk 4000 R && (decide (G.length ≤ 4000) && groupsOk G)

theorem drop_ix (R : List Int) (i : Nat) (h : i < R.length) : R.drop i = ix R i :: R.drop (i + 1) := by
 rw [List.drop_eq_getElem_cons h]
 simp [ix, List.getD_eq_getElem?_getD, h]

theorem any_range (G : List (Int × Int)) (p : Int → Int → Bool) : ((List.range G.length).any fun k => p (gs G k) (gv G k)) = G.any fun g => p g.1 g.2 := by
 induction G with
 | nil => rfl
 | cons g G ih =>
  rw [List.length_cons, List.range_succ_eq_map, List.any_cons, List.any_cons, List.any_map, ← ih]
  rfl

theorem enter_bad (args : Array Value) (w : World) : (callFunc 41 args).run Tryz.prog w = .ok (.enter 41 args) w := by
 kernel_rfl

set_option maxRecDepth 10000 in
set_option maxHeartbeats 800000 in
theorem valid_any (ra ga : Option Addr) (n c m d : Nat) (single b : Bool) (R : List Int) (G : List (Int × Int)) (w : World)
  (hn : n ≤ 4000) (hm : m ≤ 4000) (hR : Ints w ra n R) (hG : Pairs w ga m G) (hb : validS R G = b) :
  Calls Tryz.prog 22 #[.agg #[.slice ra n c, .slice ga m d, .bool single]] w fun e w' => e = .returned (.bool b) ∧ Below w.heap.size w w' := by
 have HB := Lib.hid hb
 clear hb
 go_enter Tryz.func22, Tryz.ntmps22
 go_wp2
 go_loopw [3, 5, 10] (fun v3 _ k wr => ∃ (i : Nat) (left : Int), i ≤ n ∧ v3 = .int .i64 left ∧ k = .int .i64 i ∧ 0 ≤ left ∧ left ≤ 4000 ∧ wr.cell? ⟨w.heap.size, 1, none⟩ = some (.slice ga m d) ∧ Below w.heap.size w wr ∧ Hid (runsOk 4000 R = runsOk left (R.drop i)))
  (fun _ _ k _ => n - (intOf k).toNat)
 case atStart => exact ⟨0, 4000, Nat.zero_le _, rfl, rfl, by omega, by omega, by simp [World.cell?_alloc_new], (Below.refl _ _).alloc (Nat.le_refl _) _, rfl⟩
 case round =>
  obtain ⟨i, left, hi, rfl, rfl, hl0, hl1, hg1, hb, HR⟩ := hrel
  by_cases hlt : i < n
  ·
   obtain ⟨bb, o, rfl, r1⟩ := (hR.below hb).2 i hlt
   have HD := Lib.hid (drop_ix R i (by rw [hR.1]; exact hlt))
   obtain ⟨x, hx⟩ : ∃ x, x = ix R i := ⟨_, rfl⟩
   rw [← hx] at r1 HD
   clear hx hR hG
   by_cases h1 : x < 1
   ·
    have HF : Hid (validS R G = false) := by simp [Hid, validS, HR.out, HD.out, runsOk, h1]
    go_wp2
    go_ret
    exact ⟨by rw [← HB.out, HF.out]; rfl, hb⟩
   ·
    by_cases h2 : left < x
    ·
     have HF : Hid (validS R G = false) := by simp [Hid, validS, HR.out, HD.out, runsOk, h2]
     go_wp2
     go_ret
     exact ⟨by rw [← HB.out, HF.out]; rfl, hb⟩
    ·
     have HF : Hid (runsOk left (R.drop i) = runsOk (left - x) (R.drop (i + 1))) := by rw [HD.out]; simp [Hid, runsOk, h1, h2]
     go_wp2
     go_roundw
     case rel => exact ⟨i + 1, left - x, by omega, rfl, by go_num, by omega, by omega, hg1, hb, by rw [HR.out, HF.out]; rfl⟩
     case measure => simp [intOf]; omega
  ·
   have H0 : Hid (validS R G = groupsOk G) := by
    have : R.drop i = [] := List.drop_eq_nil_of_le (by rw [hR.1]; omega)
    have h2 := HR.out; rw [this] at h2
    simp [Hid, validS, h2, runsOk, hG.1, hm]
   have HC := Lib.hid (contains_groups 41 #[] badG ga m d G wr hm enter_bad (hG.below hb) (fun k wr' _ _ => by simpa using bad_any _ _ wr'))
   have HN := Lib.hid hG.1
   clear hR hG
   go_wp2_with fail
   refine HC.out.mono ?_
   rintro e w1 ⟨rfl, hb1⟩
   have hb2 := Lib.hid (hb.trans (hb1.mono hb.size))
   clear hb hb1
   go_wp2
   go_ret
   exact ⟨ret_bool (by rw [← HB.out, H0.out, groupsOk, ← any_range, HN.out]), hb2.out⟩
end Go.Proofs.YthabgljdndbphaaGreatDoor

namespace Go.Proofs.YthabgljdndbphaaGreatDoor
open Go.RowKit

/-- The numbers from 0 on. -/
def idx (n : Nat) : List Int := (List.range n).map fun (k : Nat) => (k : Int)

theorem idx_length (n : Nat) : (idx n).length = n := by simp [idx]

theorem ix_idx (n k : Nat) (h : k < n) : ix (idx n) k = k := by
 simp [ix, idx, List.getD_eq_getElem?_getD, h]

theorem mem_idx (n : Nat) (x : Int) : x ∈ idx n ↔ 0 ≤ x ∧ x < n := by
 simp only [idx, List.mem_map, List.mem_range]
 exact ⟨fun ⟨k, h, e⟩ => by omega, fun h => ⟨x.toNat, by omega, by omega⟩⟩

theorem idx_lt (n : Nat) : (idx n).Pairwise (· < ·) := by
 rw [idx, List.pairwise_map]
 exact List.Pairwise.imp (fun h => by omega) (List.pairwise_lt_range (n := n))

theorem make_ints (n : Nat) (hn : n ≤ 4000) : ∃ arr : Array Value, arr.size = n ∧ (∀ k, k < n → arr[k]? = some (.int .i64 0)) ∧
  ∀ w : World, (Instr.makeSlice 22 (.int .i64 (n : Int)) (.int .i64 (n : Int))).run Tryz.prog w = .ok (.slice (some ⟨w.heap.size, 0, none⟩) n n) (w.alloc (.cells arr 3)) := by
 refine ⟨madeCells #[.int .i64 0] n, size_madeCells _ _, fun k hk => ?_, fun w => ?_⟩
 ·
  simp [madeCells, hk, Nat.mod_one]
 ·
  exact run_make_row' 22 3 (.int .i64 0) 8 Tryz.underlying22 (by kernel_rfl) rfl .i64 .i64 n (by omega) (by omega) w

theorem IntRow.made {w : World} {arr : Array Value} {T : TypeId} {n g : Nat} (hg : g = w.heap.size) (hs : arr.size = n) (hz : ∀ k, k < n → arr[k]? = some (.int .i64 0)) : IntRow (w.alloc (.cells arr T)) g T (List.replicate n 0) := by
 subst hg
 refine ⟨arr, ?_, by simp [hs], fun k hk => ?_⟩
 ·
  show (w.heap.push _)[w.heap.size]? = _
  simp
 ·
  rw [List.length_replicate] at hk
  rw [hz k hk]
  simp [ix, List.getD_eq_getElem?_getD, hk]

theorem IntRow.ints {w : World} {g : Nat} {T : TypeId} {D : List Int} (h : IntRow w g T D) : Ints w (some ⟨g, 0, none⟩) D.length D :=
 ⟨rfl, fun k hk => ⟨g, 0, rfl, by rw [Nat.zero_add]; exact h.cell k hk⟩⟩

/-- A greater value comes first, of equal ones the lesser number. -/
def byValue (G : List (Int × Int)) (u v : Int) : Prop := gv G v.toNat < gv G u.toNat ∨ (gv G u.toNat = gv G v.toNat ∧ u < v)

theorem byValue_trans (G : List (Int × Int)) (x y z : Int) (h : byValue G x y) (k : byValue G y z) : byValue G x z := by
 unfold byValue at *; omega

/-- The numbers of the groups in the order by value. -/
def Ranked (G : List (Int × Int)) (O : List Int) : Prop := O.Perm (idx G.length) ∧ O.Pairwise (byValue G)

def ValuesOk (G : List (Int × Int)) : Prop := ∀ k, k < G.length → (1 ≤ gs G k ∧ gs G k ≤ 12) ∧ 0 ≤ gv G k ∧ gv G k ≤ 1000000

theorem enter_ranked1 (args : Array Value) (w : World) : (callFunc 53 args).run Tryz.prog w = .ok (.enter 53 args) w := by
 kernel_rfl

set_option maxRecDepth 10000 in
set_option maxHeartbeats 400000 in
theorem ranked1_any (B : Nat) (ra : Option Addr) (n c : Nat) (G : List (Int × Int)) (x y : Int) (w : World) (hc : w.cell? ⟨B, 0, none⟩ = some (.slice ra n c)) (hG : Pairs w ra n G) (hv : ValuesOk G)
  (hx : 0 ≤ x ∧ x < n) (hy : 0 ≤ y ∧ y < n) :
  Calls Tryz.prog 53 #[.int .i64 x, .int .i64 y, .pointer (some ⟨B, 0, none⟩)] w fun e w' => e = .returned (.int .i64 (gv G y.toNat - gv G x.toNat)) ∧ ∃ q, w' = w.drewN q := by
 obtain ⟨i, rfl⟩ : ∃ i : Nat, x = i := ⟨x.toNat, by omega⟩
 obtain ⟨j, rfl⟩ : ∃ i : Nat, y = i := ⟨y.toNat, by omega⟩
 have b1 := hv i (by rw [hG.1]; omega)
 have b2 := hv j (by rw [hG.1]; omega)
 obtain ⟨b, o, rfl, _, c1⟩ := hG.2 i (by omega)
 obtain ⟨b', o', e, _, c2⟩ := hG.2 j (by omega)
 obtain ⟨rfl, rfl⟩ : b = b' ∧ o = o' := by simpa using e
 obtain ⟨_, b1⟩ := b1; obtain ⟨_, b2⟩ := b2
 clear hG hv e
 go_enter Tryz.func53, Tryz.ntmps53
 go_wp2
 go_quiet (fail)
 go_wp2
 go_ret
 exact ⟨by simp, nq, rfl⟩

set_option maxRecDepth 10000 in
set_option maxHeartbeats 800000 in
theorem ranked_any (ra : Option Addr) (n c : Nat) (G : List (Int × Int)) (w : World) (hn : n ≤ 4000) (hG : Pairs w ra n G) (hv : ValuesOk G) :
  Calls Tryz.prog 33 #[.slice ra n c] w fun e w' => ∃ oa c' O, e = .returned (.slice oa n c') ∧ Below w.heap.size w w' ∧ Ints w' oa n O ∧ Ranked G O := by
 obtain ⟨arr, hs, hz, hmk⟩ := make_ints n hn
 have hrow0 := IntRow.made (w := w.alloc (.cells #[.slice ra n c] 23)) (T := 3) (g := w.heap.size + 1) (by simp) hs hz
 have HROW := Lib.hid hrow0
 have HG := Lib.hid hG; have HV := Lib.hid hv
 clear hrow0 hz hs hG hv
 go_enter Tryz.func33, Tryz.ntmps33
 go_wp2
 go_loopw [4, 10] (fun _ v wr => ∃ (i : Nat) (D : List Int), v = .int .i64 i ∧ i ≤ n ∧ Hid (D.length = n) ∧ Hid (∀ k, k < i → ix D k = k) ∧ IntRow wr (w.heap.size + 1) 3 D ∧ Below w.heap.size w wr ∧ wr.cell? ⟨w.heap.size, 0, none⟩ = some (.slice ra n c))
  (fun _ v _ => n - (intOf v).toNat)
 case atStart => exact ⟨0, _, rfl, Nat.zero_le _, List.length_replicate, by simp [Hid], HROW.out, (((Below.refl _ _).alloc (Nat.le_refl _) _).alloc (by simp) _), by simp [go_sem]⟩
 case round =>
  clear HROW hmk
  obtain ⟨i, D, rfl, hi, H1, H2, hr, hb, hbox⟩ := hrel
  by_cases hlt : i < n
  ·
   have c1 := hr.cell i (by rw [H1.out]; exact hlt)
   have f1 := hr.free i
   have HS := Lib.hid (hr.set i (by rw [H1.out]; exact hlt) i)
   clear hr
   go_wp2
   go_roundw
   case rel => exact ⟨i + 1, _, by go_num, by omega, by show _ = _; rw [List.length_set]; exact H1.out, by
    intro k hk
    rw [ix_set _ _ _ _ (by rw [H1.out]; exact hlt)]
    by_cases h : i = k
    ·
     rw [if_pos h, h]
    ·
     rw [if_neg h]; exact H2.out k (by omega), HS.out, hb.setCell (by simp) _, by simpa [go_sem] using hbox⟩
   case measure => simp [intOf]; omega
  ·
   have hD : D = idx n := by
    apply list_ext_ix
    ·
     rw [H1.out, idx_length]
    ·
     intro k hk; rw [H1.out] at hk; rw [ix_idx n k hk]; exact H2.out k (by omega)
   subst hD
   have hN : n = G.length := HG.out.1.symm
   have hcmp : CmpAt 53 #[.pointer (some ⟨w.heap.size, 0, none⟩)] (fun x y => gv G y.toNat - gv G x.toNat) (fun x => 0 ≤ x ∧ x < n) (w.heap.size + 1) wr := by
    intro x y w' hx hy hg
    have hbx : w'.cell? ⟨w.heap.size, 0, none⟩ = some (.slice ra n c) := hg.cell hbox (by simp)
    have hb2 : Below w.heap.size w w' := hb.grown hg hb.size (fun k hk => by simp at hk; omega)
    simpa using ranked1_any w.heap.size ra n c G x y w' hbx (HG.out.below hb2) HV.out hx hy
   have HS := Lib.hid (sortStable_any 53 #[.pointer (some ⟨w.heap.size, 0, none⟩)] _ _ (byValue G) (w.heap.size + 1) 3 n n (idx n) wr enter_ranked1 hcmp (byValue_trans G) (idx_length n).symm hn hr (fun x hx => (mem_idx n x).1 hx) (by
    refine List.Pairwise.imp ?_ (idx_lt n)
    intro u v huv
    unfold Ok byValue
    dsimp only
    omega))
   clear hcmp hr hbox H1 H2
   have HN := Lib.hid hN; clear hN
   go_wp2_with fail
   refine HS.out.mono ?_
   rintro e w1 ⟨rfl, hg, D', hr', hp, ho⟩
   have hb2 : Below w.heap.size w w1 := hb.grown hg hb.size (fun k hk => by simp at hk; omega)
   have hl : D'.length = n := by rw [hp.length_eq, idx_length]
   have FIN : Hid (∃ oa c' O, Ending.returned (.slice (some ⟨w.heap.size + 1, 0, none⟩) n n) = .returned (.slice oa n c') ∧ Below w.heap.size w w1 ∧ Ints w1 oa n O ∧ Ranked G O) :=
    ⟨_, _, D', rfl, hb2, by have := hr'.ints; rw [hl] at this; exact this, by rw [HN.out] at hp; exact hp, ho⟩
   clear hr' hp ho hg hb2 hl hb HS
   go_wp2
   go_ret
   exact FIN.out
/-- What the groups, in an order, those that are not left out, bring for a length. -/
def fillS (G : List (Int × Int)) (p : Int → Bool) : Int → List Int → Int
 | _, [] => 0
 | n, i :: O => if p i then fillS G p n O else min (gs G i.toNat) n * gv G i.toNat + fillS G p (n - min (gs G i.toNat) n) O

theorem enter_bound1 (args : Array Value) (w : World) : (callFunc 40 args).run Tryz.prog w = .ok (.enter 40 args) w := by
 kernel_rfl

theorem bound1_any (x : Int) (w : World) : Calls Tryz.prog 40 #[.int .i64 x] w fun e w' => e = .returned (.bool false) ∧ w = w' := by
 go_enter Tryz.func40, Tryz.ntmps40
 go_wp2
 go_ret
 exact ⟨rfl, rfl⟩

set_option maxRecDepth 10000 in
set_option maxHeartbeats 800000 in
theorem fill_any (f : Nat) (cap : Array Value) (p : Int → Bool) (ga oa : Option Addr) (m d n c : Nat) (G : List (Int × Int)) (O : List Int) (len : Int) (w : World)
  (hcf : ∀ (args : Array Value) (w : World), (callFunc f args).run Tryz.prog w = .ok (.enter f args) w)
  (hcl : ∀ x wr, Below w.heap.size w wr → 0 ≤ x → x < m → Calls Tryz.prog f (#[.int .i64 x] ++ cap) wr fun e w' => e = .returned (.bool (p x)) ∧ Below wr.heap.size wr w')
  (hn : n ≤ 4000) (hG : Pairs w ga m G) (hO : Ints w oa n O) (hv : ValuesOk G) (hr : ∀ x ∈ O, 0 ≤ x ∧ x < m) (hl0 : 0 ≤ len) (hl1 : len ≤ 4000) :
  Calls Tryz.prog 39 #[.slice ga m d, .slice oa n c, .func (.func f) #[] cap, .int .i64 len] w fun e w' => e = .returned (.int .i64 (fillS G p len O)) ∧ Below w.heap.size w w' := by
 have HC := Lib.hid hcl; have HG := Lib.hid hG; have HO := Lib.hid hO; have HV := Lib.hid hv; have HR := Lib.hid hr
 clear hcl hG hO hv hr
 go_enter Tryz.func39, Tryz.ntmps39
 go_wp2
 go_loopw [3, 9, 11, 12, 15] (fun v3 v9 _ _ v15 wr => ∃ (i : Nat) (left value : Int), v3 = .int .i64 left ∧ v9 = .int .i64 value ∧ v15 = .int .i64 i ∧ i ≤ n ∧ 0 ≤ left ∧ left ≤ 4000 ∧ 0 ≤ value ∧ value ≤ 12000000 * i ∧ Below w.heap.size w wr ∧
   Hid (fillS G p len O = value + fillS G p left (O.drop i)))
  (fun _ _ _ _ v15 _ => n - (intOf v15).toNat)
 case atStart => exact ⟨0, len, 0, rfl, rfl, rfl, Nat.zero_le _, hl0, hl1, by omega, by omega, Below.refl _ _, by simp [Hid]⟩
 case round =>
  obtain ⟨i, left, value, rfl, rfl, rfl, hi, h1, h2, h3, h4, hb, HF⟩ := hrel
  by_cases hlt : i < n
  ·
   obtain ⟨bo, oo, rfl, c0⟩ := (HO.out.below hb).2 i hlt
   have hd := drop_ix O i (by rw [HO.out.1]; exact hlt)
   have hx := HR.out (ix O i) (by
    have hlt' : i < O.length := by rw [HO.out.1]; exact hlt
    simp [ix, List.getD_eq_getElem?_getD, hlt'])
   obtain ⟨x, hxx⟩ : ∃ x : Nat, (x : Int) = ix O i := ⟨(ix O i).toNat, by omega⟩
   rw [← hxx] at c0 hd hx
   have hxm : x < m := by omega
   have HD := Lib.hid hd
   have hC := HC.out x wr hb (by omega) (by omega)
   obtain ⟨q, hq⟩ : ∃ q, q = p x := ⟨_, rfl⟩
   rw [← hq] at hC
   have HQ := Lib.hid hq; have HC2 := Lib.hid hC
   clear hd hx hxx hq hC
   go_wp2_with fail
   refine HC2.out.mono ?_
   rintro e w1 ⟨rfl, hb1⟩
   have hb2 := hb.trans (hb1.mono hb.size)
   cases q
   ·
    obtain ⟨bg, og, rfl, c1, c2⟩ := (HG.out.below hb2).2 x hxm
    have hv := HV.out x (by rw [HG.out.1]; exact hxm)
    have HF2 : Hid (fillS G p left (O.drop i) = min (gs G x) left * gv G x + fillS G p (left - min (gs G x) left) (O.drop (i + 1))) := by
     rw [HD.out]; simp [Hid, fillS, ← HQ.out]
    obtain ⟨s, hs⟩ : ∃ s, s = gs G x := ⟨_, rfl⟩
    obtain ⟨v, hvv⟩ : ∃ v, v = gv G x := ⟨_, rfl⟩
    rw [← hs] at c1 hv HF2; rw [← hvv] at c2 hv HF2
    clear hs hvv
    obtain ⟨k, hk⟩ : ∃ k, k = min s left := ⟨_, rfl⟩
    have hk1 : 0 ≤ k ∧ k ≤ 12 ∧ k ≤ left := by omega
    have hkv : 0 ≤ k * v ∧ k * v ≤ 12000000 := ⟨Int.mul_nonneg (by omega) (by omega), Int.le_trans (Int.mul_le_mul (show k ≤ 12 by omega) (show v ≤ 1000000 by omega) (by omega) (by omega)) (by omega)⟩
    have hk' : min s left = k := hk.symm
    rw [hk'] at HF2
    have hk2 : (if left < s then left else s) = k := by rw [hk]; split <;> omega
    have HB2 := Lib.hid hb2
    clear hb hb1 hb2 hk hk'
    go_wp2
    go_roundw
    case rel => exact ⟨i + 1, left - k, value + k * v, rfl, rfl, by go_num, by omega, by omega, by omega, by omega, by omega, HB2.out, by rw [HF.out, HF2.out]; simp only [Hid]; omega⟩
    case measure => simp [intOf]; omega
   ·
    have HB2 := Lib.hid hb2
    clear hb hb1 hb2
    go_wp2
    go_roundw
    case rel => exact ⟨i + 1, left, value, rfl, rfl, by go_num, by omega, h1, h2, h3, by omega, HB2.out, by rw [HF.out, HD.out, fillS]; simp [Hid, ← HQ.out]⟩
    case measure => simp [intOf]; omega
  ·
   go_wp2
   go_ret
   exact ⟨by rw [HF.out, List.drop_eq_nil_of_le (by rw [HO.out.1]; omega)]; simp [fillS], hb⟩
end Go.Proofs.YthabgljdndbphaaGreatDoor
