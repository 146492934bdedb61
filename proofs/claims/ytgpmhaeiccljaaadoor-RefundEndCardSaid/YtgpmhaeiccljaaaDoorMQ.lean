/- The three functions within money.Split: bad, rest, and the comparison. -/
import Derived.Test.YtgpmhaeiccljaaaDoorMD
import Derived.Test.YtgpmhaeiccljaaaDoorMB
import Derived.Test.YtgpmhaeiccljaaaDoorSort7
import Derived.Deep.RegionWith
namespace Go.Proofs.YtgpmhaeiccljaaaDoor
open Go.RowKit Go.IntWalk

theorem enter_bad (args : Array Value) (w : World) : (callFunc 48 args).run Tryd.prog w = .ok (.enter 48 args) w := by
  kernel_rfl
theorem enter_rest (args : Array Value) (w : World) : (callFunc 51 args).run Tryd.prog w = .ok (.enter 51 args) w := by
  kernel_rfl
theorem enter_more (args : Array Value) (w : World) : (callFunc 53 args).run Tryd.prog w = .ok (.enter 53 args) w := by
  kernel_rfl

def badB (x : Int) : Bool := decide (x < 0) || decide (1000000000 < x)

set_option maxRecDepth 10000 in
theorem bad_any (x : Int) (w : World) : Calls Tryd.prog 48 #[.int .i64 x] w fun e w' => e = .returned (.bool (badB x)) ∧ w = w' := by
  go_enter Tryd.func48, Tryd.ntmps48
  by_cases h1 : x < 0
  · have e1 : decide (x < 0) = true := by simp; exact h1
    have HE : Hid (badB x = true) := by show _ = _; unfold badB; rw [e1]; rfl
    go_wp2
    go_ret
    exact ⟨by rw [HE.out]; rfl, rfl⟩
  · have e1 : decide (x < 0) = false := by simp; omega
    have HE : Hid (badB x = decide (1000000000 < x)) := by show _ = _; unfold badB; rw [e1]; rfl
    go_wp2
    go_ret
    exact ⟨by rw [HE.out]; rfl, rfl⟩

/-- What the captured variables of rest hold. -/
structure Caps (w : World) (s n v a : Nat) (sg nv : Int) (ra : Option Addr) (k c : Nat) (al : Int) : Prop where
  sign : w.cell? ⟨s, 0, none⟩ = some (.int .i64 sg)
  num : w.cell? ⟨n, 0, none⟩ = some (.int .i64 nv)
  ws : w.cell? ⟨v, 0, none⟩ = some (.slice ra k c)
  all : w.cell? ⟨a, 0, none⟩ = some (.int .i64 al)

/-- What the numbers of a split fulfil. -/
structure Nums (N : Int) (W : List Int) : Prop where
  lo : 0 ≤ N
  hi : N ≤ 1000000000
  len : W.length ≤ 100
  each : ∀ i, i < W.length → 0 ≤ ix W i ∧ ix W i ≤ 1000000000
  pos : 0 < allW W

theorem Nums.prod {N : Int} {W : List Int} (h : Nums N W) (i : Nat) (hi : i < W.length) : 0 ≤ N * ix W i ∧ N * ix W i ≤ 1000000000000000000 := by
  have b := h.each i hi
  have h1 := h.lo
  have h2 := h.hi
  refine ⟨Int.mul_nonneg h1 b.1, ?_⟩
  calc N * ix W i ≤ 1000000000 * ix W i := Int.mul_le_mul_of_nonneg_right h2 b.1
    _ ≤ 1000000000 * 1000000000 := Int.mul_le_mul_of_nonneg_left b.2 (by omega)
    _ = 1000000000000000000 := by omega

theorem Nums.all_le {N : Int} {W : List Int} (h : Nums N W) : allW W ≤ 100000000000 := by
  have h1 : sumN (ix W) W.length ≤ sumN (fun _ => 1000000000) W.length := sumN_le _ _ _ fun k hk => (h.each k hk).2
  rw [sumN_const] at h1
  have := h.len
  unfold allW
  omega

theorem Nums.rest {N : Int} {W : List Int} (h : Nums N W) (i : Nat) (hi : i < W.length) : (N * ix W i).tmod (allW W) = restS N W i ∧ (N * ix W i).tdiv (allW W) = baseS N W i ∧ 0 ≤ restS N W i ∧ restS N W i < allW W := by
  have b := h.prod i hi
  have hp := h.pos
  refine ⟨?_, ?_, Int.emod_nonneg _ (by omega), Int.emod_lt_of_pos _ hp⟩
  · unfold restS; exact Int.tmod_eq_emod_of_nonneg b.1
  · unfold baseS; exact Int.tdiv_eq_ediv_of_nonneg b.1

set_option maxRecDepth 10000 in
set_option maxHeartbeats 800000 in
theorem rest_any (s n v a : Nat) (sg nv N : Int) (ra : Option Addr) (k c : Nat) (W : List Int) (x : Int) (w : World) (hc : Caps w s n v a sg nv ra k c (allW W)) (hW : Ints w ra k W) (hN : Nums N W) (hsn : sg * nv = N)
    (hx : 0 ≤ x ∧ x < k) : Calls Tryd.prog 51 #[.int .i64 x, .pointer (some ⟨s, 0, none⟩), .pointer (some ⟨n, 0, none⟩), .pointer (some ⟨v, 0, none⟩), .pointer (some ⟨a, 0, none⟩)] w
      fun e w' => e = .returned (.int .i64 (restS N W x.toNat)) ∧ ∃ q, w' = w.drewN q := by
  obtain ⟨i, rfl⟩ : ∃ i : Nat, x = i := ⟨x.toNat, by omega⟩
  have hk : W.length = k := hW.1
  have hi : i < W.length := by omega
  obtain ⟨b, o, rfl, c5⟩ := hW.2 i (by omega)
  have c1 := hc.sign
  have c2 := hc.num
  have c3 := hc.ws
  have c4 := hc.all
  have hp := hN.prod i hi
  have hr := hN.rest i hi
  have ha := hN.all_le
  have hpos := hN.pos
  have hlo := hN.lo
  have hhi := hN.hi
  rw [show ((i : Int)).toNat = i from by omega]
  obtain ⟨W1, hW1⟩ : ∃ z, ix W i = z := ⟨_, rfl⟩
  rw [hW1] at c5 hp hr
  obtain ⟨y, hy⟩ : ∃ z, N * W1 = z := ⟨_, rfl⟩
  rw [hy] at hp hr
  obtain ⟨al, hal⟩ : ∃ z, allW W = z := ⟨_, rfl⟩
  rw [hal] at c4 hr ha hpos
  obtain ⟨r, hr0⟩ : ∃ z, restS N W i = z := ⟨_, rfl⟩
  rw [hr0] at hr ⊢
  have hrr := hr.1
  have w0 : IntKind.i64.wrap N = N := i64_in _ (by omega)
  have w1 : IntKind.i64.wrap y = y := i64_in _ (by omega)
  have w2 : IntKind.i64.wrap r = r := i64_in _ (by omega)
  have w3 : (al == 0) = false := by simp; omega
  clear hr hW hc hN hr0 hal hW1
  go_enter Tryd.func51, Tryd.ntmps51
  go_wp2
  go_quiet (fail)
  go_wp2
  go_ret
  exact ⟨by first | rfl | simp, nq, rfl⟩

theorem Caps.drewN {w : World} {s n v a : Nat} {sg nv : Int} {ra : Option Addr} {k c : Nat} {al : Int} (h : Caps w s n v a sg nv ra k c al) (q : Nat) : Caps (w.drewN q) s n v a sg nv ra k c al :=
  ⟨h.sign, h.num, h.ws, h.all⟩

theorem Caps.below {w w' : World} {s n v a : Nat} {sg nv : Int} {ra : Option Addr} {k c : Nat} {al : Int} (h : Caps w s n v a sg nv ra k c al) (hb : Below w.heap.size w w') : Caps w' s n v a sg nv ra k c al :=
  ⟨Below.cell_of hb h.sign, Below.cell_of hb h.num, Below.cell_of hb h.ws, Below.cell_of hb h.all⟩

def restF (s n v a : Nat) : Value := .func (.func 51) #[] #[.pointer (some ⟨s, 0, none⟩), .pointer (some ⟨n, 0, none⟩), .pointer (some ⟨v, 0, none⟩), .pointer (some ⟨a, 0, none⟩)]

set_option maxRecDepth 10000 in
set_option maxHeartbeats 800000 in
theorem more_any (R s n v a : Nat) (sg nv N : Int) (ra : Option Addr) (k c : Nat) (W : List Int) (x y : Int) (w : World) (hR : w.cell? ⟨R, 0, none⟩ = some (restF s n v a)) (hc : Caps w s n v a sg nv ra k c (allW W)) (hW : Ints w ra k W) (hN : Nums N W) (hsn : sg * nv = N)
    (hx : 0 ≤ x ∧ x < k) (hy : 0 ≤ y ∧ y < k) : Calls Tryd.prog 53 #[.int .i64 x, .int .i64 y, .pointer (some ⟨R, 0, none⟩)] w
      fun e w' => e = .returned (.int .i64 (restS N W y.toNat - restS N W x.toNat)) ∧ ∃ q, w' = w.drewN q := by
  have hk : W.length = k := hW.1
  have hall := hN.all_le
  have b1 := (hN.rest x.toNat (by omega)).2.2
  have b2 := (hN.rest y.toNat (by omega)).2.2
  have H1 : Hid (∀ q, Calls Tryd.prog 51 #[.int .i64 y, .pointer (some ⟨s, 0, none⟩), .pointer (some ⟨n, 0, none⟩), .pointer (some ⟨v, 0, none⟩), .pointer (some ⟨a, 0, none⟩)] (w.drewN q)
      fun e w' => e = .returned (.int .i64 (restS N W y.toNat)) ∧ ∃ q', w' = (w.drewN q).drewN q') := fun q =>
    rest_any s n v a sg nv N ra k c W y (w.drewN q) (hc.drewN q) (hW.below (below_drewN (Below.refl _ _) q)) hN hsn hy
  have H2 : Hid (∀ q, Calls Tryd.prog 51 #[.int .i64 x, .pointer (some ⟨s, 0, none⟩), .pointer (some ⟨n, 0, none⟩), .pointer (some ⟨v, 0, none⟩), .pointer (some ⟨a, 0, none⟩)] (w.drewN q)
      fun e w' => e = .returned (.int .i64 (restS N W x.toNat)) ∧ ∃ q', w' = (w.drewN q).drewN q') := fun q =>
    rest_any s n v a sg nv N ra k c W x (w.drewN q) (hc.drewN q) (hW.below (below_drewN (Below.refl _ _) q)) hN hsn hx
  clear hc hW hN hsn
  unfold restF at hR
  generalize restS N W x.toNat = r1 at *
  generalize restS N W y.toNat = r2 at *
  generalize allW W = al at *
  have he := enter_rest
  go_enter Tryd.func53, Tryd.ntmps53
  go_wp2
  go_quiet (first
    | (go_at_call_of 51 (Value.int IntKind.i64 y); refine Calls.quiet_of (H1.out _))
    | (go_at_call_of 51 (Value.int IntKind.i64 x); refine Calls.quiet_of (H2.out _)))
  go_wp2
  go_ret
  exact ⟨by first | rfl | simp, nq, rfl⟩

/-- The order of the places in which the missing cents are given. -/
def precS (N : Int) (W : List Int) (x y : Int) : Prop := befS N W x.toNat y.toNat = true
end Go.Proofs.YtgpmhaeiccljaaaDoor
