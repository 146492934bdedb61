/- SortStableFunc at []int: a permutation, in the order that the comparison and the first places give; B. -/
import Derived.Test.YtaomlhhlefpdeaaQFitBound00
import Derived.Test.YtaomlhhlefpdeaaQFitBound08
import Derived.Test.YtaomlhhlefpdeaaProg

namespace Go.Proofs.Ytaomlhhlefpdeaa
open Go.RowKit

set_option maxHeartbeats 400000 in
theorem sortStable_any (f : Nat) (cap : Array Value) (cf : Int → Int → Int) (dom : Int → Prop) (prec : Int → Int → Prop) (g T c l : Nat) (D : List Int) (w : World)
    (hcf : ∀ (args : Array Value) (w : World), (callFunc f args).run Try.prog w = .ok (.enter f args) w)
    (hcmp : CmpAt f cap cf dom g w) (htr : ∀ x y z, prec x y → prec y z → prec x z) (hl : l = D.length) (hD : l ≤ 4000) (hR : IntRow w g T D) (hdom : ∀ x ∈ D, dom x) (hok : D.Pairwise (Ok cf prec)) :
    Calls Try.prog 64 #[.slice (some ⟨g, 0, none⟩) l c, .func (.func f) #[] cap] w
      fun e w' => e = .returned (.tuple #[]) ∧ w.grownBy w' (some g) ∧ ∃ D', IntRow w' g T D' ∧ D'.Perm D ∧ D'.Pairwise prec := by
  have H := Lib.hid (stable_any f cap cf dom prec g T c l D w hcf hcmp htr hl hD hR hdom hok)
  clear hcmp htr hl hR hdom hok
  go_enter Try.func64, Try.ntmps64
  go_wp2_with fail
  refine H.out.mono ?_
  rintro e w1 ⟨rfl, hg, hx⟩
  have HX := Lib.hid hx; clear hx
  go_wp2
  go_end0
  exact ⟨rfl, hg, HX.out⟩

set_option maxHeartbeats 400000 in
theorem sortStable_none (f : Nat) (cap : Array Value) (ra : Option Addr) (c : Nat) (w : World) :
    Calls Try.prog 64 #[.slice ra 0 c, .func (.func f) #[] cap] w fun e w' => e = .returned (.tuple #[]) ∧ w = w' := by
  go_enter Try.func64, Try.ntmps64
  go_wp2_with fail
  have hs : Calls Try.prog 75 #[.slice ra 0 c, .int .i64 0, .func (.func f) #[] cap] w fun e w' => e = .returned (.tuple #[]) ∧ w = w' := by
    go_enter Try.func75, Try.ntmps75
    go_wp2
    refine wp_loop_rounds 1 ?_
    rw [rounds_succ]
    go_wp2_with fail
    refine (insertion_none f cap _ 0 (by omega) w).mono ?_
    rintro e w1 ⟨rfl, rfl⟩
    go_wp2
    refine wp_loop_rounds 1 ?_
    rw [rounds_succ]
    go_wp2
    go_end0
    exact ⟨rfl, rfl⟩
  refine hs.mono ?_
  rintro e w1 ⟨rfl, rfl⟩
  go_wp2
  go_end0
  exact ⟨rfl, rfl⟩
end Go.Proofs.Ytaomlhhlefpdeaa

namespace Go.Proofs.Ytaomlhhlefpdeaa
open Go.RowKit

def gs (l : List (Int × Int)) (i : Nat) : Int := (l.getD i (0, 0)).1
def gv (l : List (Int × Int)) (i : Nat) : Int := (l.getD i (0, 0)).2

/-- The address and length read as the pairs of integers xs. -/
def Pairs (w : World) (ra : Option Addr) (n : Nat) (xs : List (Int × Int)) : Prop :=
  xs.length = n ∧ ∀ k, k < n → ∃ b o, ra = some ⟨b, o, none⟩ ∧ w.cell? ⟨b, o + k * 2, none⟩ = some (.int .i64 (gs xs k)) ∧ w.cell? ⟨b, o + k * 2 + 1, none⟩ = some (.int .i64 (gv xs k))

theorem Pairs.below {w w' : World} {ra : Option Addr} {n : Nat} {xs : List (Int × Int)} (h : Pairs w ra n xs) (hb : Below w.heap.size w w') : Pairs w' ra n xs :=
  ⟨h.1, fun k hk => let ⟨b, o, e, c, d⟩ := h.2 k hk; ⟨b, o, e, Below.cell_of hb c, Below.cell_of hb d⟩⟩

theorem ret_bool {a b : Bool} (h : a = b) : Ending.returned (.bool a) = Ending.returned (.bool b) := by rw [h]

def badG (s v : Int) : Bool := decide (s < 1) || decide (12 < s) || decide (v < 0) || decide (1000000 < v)

set_option maxHeartbeats 400000 in
theorem bad_any (s v : Int) (w : World) :
    Calls Try.prog 41 #[.agg #[.int .i64 s, .int .i64 v]] w fun e w' => e = .returned (.bool (badG s v)) ∧ Below w.heap.size w w' := by
  by_cases h1 : s < 1
  · have H : Hid (badG s v = true) := by simp [Hid, badG, h1]
    go_enter Try.func41, Try.ntmps41
    go_wp2
    go_ret
    exact ⟨by rw [H.out]; rfl, (Below.refl _ _).alloc (Nat.le_refl _) _⟩
  · by_cases h2 : 12 < s
    · have H : Hid (badG s v = true) := by simp [Hid, badG, h2]
      go_enter Try.func41, Try.ntmps41
      go_wp2
      go_ret
      exact ⟨by rw [H.out]; rfl, (Below.refl _ _).alloc (Nat.le_refl _) _⟩
    · by_cases h3 : v < 0
      · have H : Hid (badG s v = true) := by simp [Hid, badG, h3]
        go_enter Try.func41, Try.ntmps41
        go_wp2
        go_ret
        exact ⟨by rw [H.out]; rfl, (Below.refl _ _).alloc (Nat.le_refl _) _⟩
      · go_enter Try.func41, Try.ntmps41
        go_wp2
        go_ret
        exact ⟨ret_bool (by rw [badG, decide_eq_false (show ¬ s < 1 by omega), decide_eq_false (show ¬ 12 < s by omega), decide_eq_false (show ¬ v < 0 by omega)]; rfl), (Below.refl _ _).alloc (Nat.le_refl _) _⟩

/-- The first place from k on, of n, where p holds; -1 if there is none. -/
def firstAt (p : Nat → Bool) (k : Nat) : Nat → Int
  | 0 => -1
  | n + 1 => if p k then k else firstAt p (k + 1) n

theorem firstAt_step (p : Nat → Bool) (n i : Nat) (h : i < n) : firstAt p i (n - i) = if p i then (i : Int) else firstAt p (i + 1) (n - (i + 1)) := by
  obtain ⟨m, hm⟩ : ∃ m, n - i = m + 1 := ⟨n - i - 1, by omega⟩
  rw [hm, firstAt, show n - (i + 1) = m from by omega]

set_option maxRecDepth 10000 in
set_option maxHeartbeats 400000 in
theorem index_groups (f : Nat) (cap : Array Value) (p : Int → Int → Bool) (ra : Option Addr) (n c : Nat) (G : List (Int × Int)) (w : World)
    (hn : n ≤ 4000) (hcf : ∀ (args : Array Value) (w : World), (callFunc f args).run Try.prog w = .ok (.enter f args) w) (hG : Pairs w ra n G)
    (hcl : ∀ k wr, Below w.heap.size w wr → k < n → Calls Try.prog f (#[.agg #[.int .i64 (gs G k), .int .i64 (gv G k)]] ++ cap) wr fun e w' => e = .returned (.bool (p (gs G k) (gv G k))) ∧ Below wr.heap.size wr w') :
    Calls Try.prog 68 #[.slice ra n c, .func (.func f) #[] cap] w fun e w' => e = .returned (.int .i64 (firstAt (fun k => p (gs G k) (gv G k)) 0 n)) ∧ Below w.heap.size w w' := by
  go_enter Try.func68, Try.ntmps68
  go_wp2
  go_loopw [4, 5, 8] (fun _ _ k wr => ∃ i : Nat, i ≤ n ∧ k = .int .i64 i ∧ Below w.heap.size w wr ∧ Hid (firstAt (fun k => p (gs G k) (gv G k)) 0 n = firstAt (fun k => p (gs G k) (gv G k)) i (n - i)))
    (fun _ _ k _ => n - (intOf k).toNat)
  case atStart => exact ⟨0, Nat.zero_le _, rfl, Below.refl _ _, rfl⟩
  case round =>
    obtain ⟨i, hi, rfl, hb, HR⟩ := hrel
    by_cases hlt : i < n
    · obtain ⟨b, o, rfl, r1, r2⟩ := (hG.below hb).2 i hlt
      have HC := Lib.hid (hcl i wr hb hlt)
      have HS := Lib.hid (firstAt_step (fun k => p (gs G k) (gv G k)) n i hlt)
      clear hG hcl
      obtain ⟨q, hq⟩ : ∃ q, q = p (gs G i) (gv G i) := ⟨_, rfl⟩
      rw [← hq] at HC HS
      clear hq
      go_wp2_with fail
      refine HC.out.mono ?_
      rintro e w1 ⟨rfl, hb1⟩
      have hb2 := Lib.hid (hb.trans (hb1.mono hb.size))
      clear hb hb1 r1 r2
      cases q
      · go_wp2
        go_roundw
        case rel => exact ⟨i + 1, by omega, by go_num, hb2.out, by rw [HR.out, HS.out]; simp [Hid]⟩
        case measure => simp [intOf]; omega
      · go_wp2
        go_ret
        exact ⟨by rw [HR.out, HS.out]; simp, hb2.out⟩
    · go_wp2
      go_ret
      exact ⟨by rw [HR.out, show n - i = 0 from by omega]; rfl, hb⟩

theorem firstAt_any (p : Nat → Bool) (n : Nat) : ∀ k, decide (0 ≤ firstAt p k n) = (List.range' k n).any p := by
  induction n with
  | zero => intro k; simp [firstAt]
  | succ n ih =>
    intro k
    rw [firstAt, List.range'_succ, List.any_cons]
    cases h : p k
    · simp [← ih]
    · simp

set_option maxHeartbeats 400000 in
theorem contains_groups (f : Nat) (cap : Array Value) (p : Int → Int → Bool) (ra : Option Addr) (n c : Nat) (G : List (Int × Int)) (w : World)
    (hn : n ≤ 4000) (hcf : ∀ (args : Array Value) (w : World), (callFunc f args).run Try.prog w = .ok (.enter f args) w) (hG : Pairs w ra n G)
    (hcl : ∀ k wr, Below w.heap.size w wr → k < n → Calls Try.prog f (#[.agg #[.int .i64 (gs G k), .int .i64 (gv G k)]] ++ cap) wr fun e w' => e = .returned (.bool (p (gs G k) (gv G k))) ∧ Below wr.heap.size wr w') :
    Calls Try.prog 42 #[.slice ra n c, .func (.func f) #[] cap] w fun e w' => e = .returned (.bool ((List.range n).any fun k => p (gs G k) (gv G k))) ∧ Below w.heap.size w w' := by
  have H := Lib.hid (index_groups f cap p ra n c G w hn hcf hG hcl)
  have HF : Hid (decide (0 ≤ firstAt (fun k => p (gs G k) (gv G k)) 0 n) = (List.range n).any fun k => p (gs G k) (gv G k)) := by rw [Hid, firstAt_any, List.range_eq_range']
  clear hcl hG
  generalize firstAt (fun k => p (gs G k) (gv G k)) 0 n = z at *
  go_enter Try.func42, Try.ntmps42
  go_wp2_with fail
  refine H.out.mono ?_
  rintro e w1 ⟨rfl, hb1⟩
  have hb := Lib.hid hb1
  clear hb1
  go_wp2
  go_ret
  exact ⟨ret_bool (by rw [← HF.out]), hb.out⟩

/-- The lengths of the runs add up to at most a length. -/
def runsOk (left : Int) : List Int → Bool
  | [] => true
  | n :: l => if n < 1 ∨ left < n then false else runsOk (left - n) l

def groupsOk (G : List (Int × Int)) : Bool := !(G.any fun g => badG g.1 g.2)

def validS (R : List Int) (G : List (Int × Int)) : Bool := runsOk 4000 R && (decide (G.length ≤ 4000) && groupsOk G)

theorem drop_ix (R : List Int) (i : Nat) (h : i < R.length) : R.drop i = ix R i :: R.drop (i + 1) := by
  rw [List.drop_eq_getElem_cons h]
  simp [ix, List.getD_eq_getElem?_getD, h]

theorem any_range (G : List (Int × Int)) (p : Int → Int → Bool) : ((List.range G.length).any fun k => p (gs G k) (gv G k)) = G.any fun g => p g.1 g.2 := by
  induction G with
  | nil => rfl
  | cons g G ih =>
    rw [List.length_cons, List.range_succ_eq_map, List.any_cons, List.any_cons, List.any_map, ← ih]
    rfl

theorem enter_bad (args : Array Value) (w : World) : (callFunc 41 args).run Try.prog w = .ok (.enter 41 args) w := by
  kernel_rfl

set_option maxRecDepth 10000 in
set_option maxHeartbeats 800000 in
theorem valid_any (ra ga : Option Addr) (n c m d : Nat) (single b : Bool) (R : List Int) (G : List (Int × Int)) (w : World)
    (hn : n ≤ 4000) (hm : m ≤ 4000) (hR : Ints w ra n R) (hG : Pairs w ga m G) (hb : validS R G = b) :
    Calls Try.prog 20 #[.agg #[.slice ra n c, .slice ga m d, .bool single]] w fun e w' => e = .returned (.bool b) ∧ Below w.heap.size w w' := by
  have HB := Lib.hid hb
  clear hb
  go_enter Try.func20, Try.ntmps20
  go_wp2
  go_loopw [3, 5, 10] (fun v3 _ k wr => ∃ (i : Nat) (left : Int), i ≤ n ∧ v3 = .int .i64 left ∧ k = .int .i64 i ∧ 0 ≤ left ∧ left ≤ 4000 ∧ wr.cell? ⟨w.heap.size, 1, none⟩ = some (.slice ga m d) ∧ Below w.heap.size w wr ∧ Hid (runsOk 4000 R = runsOk left (R.drop i)))
    (fun _ _ k _ => n - (intOf k).toNat)
  case atStart => exact ⟨0, 4000, Nat.zero_le _, rfl, rfl, by omega, by omega, by simp [World.cell?_alloc_new], (Below.refl _ _).alloc (Nat.le_refl _) _, rfl⟩
  case round =>
    obtain ⟨i, left, hi, rfl, rfl, hl0, hl1, hg1, hb, HR⟩ := hrel
    by_cases hlt : i < n
    · obtain ⟨bb, o, rfl, r1⟩ := (hR.below hb).2 i hlt
      have HD := Lib.hid (drop_ix R i (by rw [hR.1]; exact hlt))
      obtain ⟨x, hx⟩ : ∃ x, x = ix R i := ⟨_, rfl⟩
      rw [← hx] at r1 HD
      clear hx hR hG
      by_cases h1 : x < 1
      · have HF : Hid (validS R G = false) := by simp [Hid, validS, HR.out, HD.out, runsOk, h1]
        go_wp2
        go_ret
        exact ⟨by rw [← HB.out, HF.out]; rfl, hb⟩
      · by_cases h2 : left < x
        · have HF : Hid (validS R G = false) := by simp [Hid, validS, HR.out, HD.out, runsOk, h2]
          go_wp2
          go_ret
          exact ⟨by rw [← HB.out, HF.out]; rfl, hb⟩
        · have HF : Hid (runsOk left (R.drop i) = runsOk (left - x) (R.drop (i + 1))) := by rw [HD.out]; simp [Hid, runsOk, h1, h2]
          go_wp2
          go_roundw
          case rel => exact ⟨i + 1, left - x, by omega, rfl, by go_num, by omega, by omega, hg1, hb, by rw [HR.out, HF.out]; rfl⟩
          case measure => simp [intOf]; omega
    · have H0 : Hid (validS R G = groupsOk G) := by
        have : R.drop i = [] := List.drop_eq_nil_of_le (by rw [hR.1]; omega)
        have h2 := HR.out; rw [this] at h2
        simp [Hid, validS, h2, runsOk, hG.1, hm]
      have HC := Lib.hid (contains_groups 41 #[] badG ga m d G wr hm enter_bad (hG.below hb) (fun k wr' _ _ => by simpa using bad_any _ _ wr'))
      have HN := Lib.hid hG.1
      clear hR hG
      go_wp2_with fail
      refine HC.out.mono ?_
      rintro e w1 ⟨rfl, hb1⟩
      have hb2 := Lib.hid (hb.trans (hb1.mono hb.size))
      clear hb hb1
      go_wp2
      go_ret
      exact ⟨ret_bool (by rw [← HB.out, H0.out, groupsOk, ← any_range, HN.out]), hb2.out⟩
end Go.Proofs.Ytaomlhhlefpdeaa
