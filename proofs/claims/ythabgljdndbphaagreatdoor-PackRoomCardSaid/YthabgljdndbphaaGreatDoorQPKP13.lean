/- fit.ranked: its slice begins a block of the call's own; What fit.Legal asks, said group by group; and no permitted packing brings more than the bound. -/
import Derived.Test.YthabgljdndbphaaGreatDoorQPKP11
import Derived.Test.YthabgljdndbphaaGreatDoorQPKP12

set_option linter.unusedVariables false
set_option linter.unusedSimpArgs false
namespace Go.Proofs.YthabgljdndbphaaGreatDoor
open Go.RowKit Go.IntWalk

theorem ranked_own (ra : Option Addr) (n c : Nat) (G : List (Int × Int)) (w : World) (hn : n ≤ 4000) (hG : Pairs w ra n G) (hv : ValuesOk G) :
  Calls Tryz.prog 33 #[.slice ra n c] w fun e w' => e = .returned (.slice (some ⟨w.heap.size + 1, 0, none⟩) n n) ∧ Below w.heap.size w w' ∧ IntRow w' (w.heap.size + 1) 3 (rankedL G) := by
 obtain ⟨arr, hs, hz, hmk⟩ := make_ints n hn
 have hrow0 := IntRow.made (w := w.alloc (.cells #[.slice ra n c] 23)) (T := 3) (g := w.heap.size + 1) (by simp) hs hz
 have HROW := Lib.hid hrow0
 have HG := Lib.hid hG; have HV := Lib.hid hv
 clear hrow0 hz hs hG hv
 go_enter Tryz.func33, Tryz.ntmps33
 go_wp2
 go_loopw [4, 10] (fun _ v wr => ∃ (i : Nat) (D : List Int), v = .int .i64 i ∧ i ≤ n ∧ Hid (D.length = n) ∧ Hid (∀ k, k < i → ix D k = k) ∧ IntRow wr (w.heap.size + 1) 3 D ∧ Below w.heap.size w wr ∧ wr.cell? ⟨w.heap.size, 0, none⟩ = some (.slice ra n c))
  (fun _ v _ => n - (intOf v).toNat)
 case atStart => exact ⟨0, _, rfl, Nat.zero_le _, List.length_replicate, by simp [Hid], HROW.out, (((Below.refl _ _).alloc (Nat.le_refl _) _).alloc (by simp) _), by simp [go_sem]⟩
 case round =>
  clear HROW hmk
  obtain ⟨i, D, rfl, hi, H1, H2, hr, hb, hbox⟩ := hrel
  by_cases hlt : i < n
  ·
   have c1 := hr.cell i (by rw [H1.out]; exact hlt)
   have f1 := hr.free i
   have HS := Lib.hid (hr.set i (by rw [H1.out]; exact hlt) i)
   clear hr
   go_wp2
   go_roundw
   case rel => exact ⟨i + 1, _, by go_num, by omega, by show _ = _; rw [List.length_set]; exact H1.out, by
    intro k hk
    rw [ix_set _ _ _ _ (by rw [H1.out]; exact hlt)]
    by_cases h : i = k
    ·
     rw [if_pos h, h]
    ·
     rw [if_neg h]; exact H2.out k (by omega), HS.out, hb.setCell (by simp) _, by simpa [go_sem] using hbox⟩
   case measure => simp [intOf]; omega
  ·
   have hD : D = idx n := by
    apply list_ext_ix
    ·
     rw [H1.out, idx_length]
    ·
     intro k hk; rw [H1.out] at hk; rw [ix_idx n k hk]; exact H2.out k (by omega)
   subst hD
   have hN : n = G.length := HG.out.1.symm
   have hcmp : CmpAt 53 #[.pointer (some ⟨w.heap.size, 0, none⟩)] (fun x y => gv G y.toNat - gv G x.toNat) (fun x => 0 ≤ x ∧ x < n) (w.heap.size + 1) wr := by
    intro x y w' hx hy hg
    have hbx : w'.cell? ⟨w.heap.size, 0, none⟩ = some (.slice ra n c) := hg.cell hbox (by simp)
    have hb2 : Below w.heap.size w w' := hb.grown hg hb.size (fun k hk => by simp at hk; omega)
    simpa using ranked1_any w.heap.size ra n c G x y w' hbx (HG.out.below hb2) HV.out hx hy
   have HS := Lib.hid (sortStable_any 53 #[.pointer (some ⟨w.heap.size, 0, none⟩)] _ _ (byValue G) (w.heap.size + 1) 3 n n (idx n) wr enter_ranked1 hcmp (byValue_trans G) (idx_length n).symm hn hr (fun x hx => (mem_idx n x).1 hx) (by
    refine List.Pairwise.imp ?_ (idx_lt n)
    intro u v huv
    unfold Ok byValue
    dsimp only
    omega))
   clear hcmp hr hbox H1 H2
   have HN := Lib.hid hN; clear hN
   go_wp2_with fail
   refine HS.out.mono ?_
   rintro e w1 ⟨rfl, hg, D', hr', hp, ho⟩
   have hb2 : Below w.heap.size w w1 := hb.grown hg hb.size (fun k hk => by simp at hk; omega)
   have FIN : Hid (True ∧ Below w.heap.size w w1 ∧ IntRow w1 (w.heap.size + 1) 3 (rankedL G)) := by
    have hrk : Ranked G D' := ⟨by rw [HN.out] at hp; exact hp, ho⟩
    rw [hrk.eq] at hr'
    exact ⟨trivial, hb2, hr'⟩
   clear hr' hp ho hg hb2 hb HS
   go_wp2
   go_ret
   exact ⟨rfl, FIN.out.2⟩
end Go.Proofs.YthabgljdndbphaaGreatDoor

namespace Go.Proofs.YthabgljdndbphaaGreatDoor
open Go.RowKit

/-! ### What a choice of amounts brings -/

def amtV (G : List (Int × Int)) (a : Int → Int) : List Int → Int
 | [] => 0
 | x :: O => a x * gv G x.toNat + amtV G a O








/-! ### The rows, group by group -/


/-- The places that a group takes. -/
def taken (G S : List (Int × Int)) (x : Int) : Int := if gs S x.toNat = -1 then 0 else gs G x.toNat

theorem idx_succ (n : Nat) : idx (n + 1) = idx n ++ [(n : Int)] := by simp [idx, List.range_succ]




/-! ### No more than the bound -/





/-- The sums of the rows 0 .. n-1. -/
def sumRows (f : Nat → Int) : Nat → Int
 | 0 => 0
 | n + 1 => sumRows f n + f n

theorem sumRows_congr (f g : Nat → Int) : ∀ n, (∀ k, k < n → f k = g k) → sumRows f n = sumRows g n := by
 intro n
 induction n with
 | zero => intro _; rfl
 | succ n ih => intro h; rw [sumRows, sumRows, ih (fun k hk => h k (by omega)), h n (by omega)]







end Go.Proofs.YthabgljdndbphaaGreatDoor
