/- Greedy's packing, plain: what the seating keeps true of the runs and the spots; Greedy's packing is permitted, and has its value. -/
import Derived.Test.YthabgljdndbphaaGreatDoorQPKL07
import Derived.Test.YthabgljdndbphaaGreatDoorQPKL08

set_option linter.unusedVariables false
set_option linter.unusedSimpArgs false
namespace Go.Proofs.YthabgljdndbphaaGreatDoor
open Go.RowKit

/-- The sizes of the groups of P that sit in run r. -/
def sumOn (G S : List (Int × Int)) (r : Int) : List Int → Int
 | [] => 0
 | x :: P => (if gs S x.toNat = r then gs G x.toNat else 0) + sumOn G S r P




structure SeatInv (single : Bool) (R : List Int) (G : List (Int × Int)) (P : List Int) (st : PackSt) : Prop where
 ll : st.left.length = R.length
 sl : st.spots.length = G.length
 run : ∀ x ∈ P, gs st.spots x.toNat = -1 ∨ ∃ r : Nat, r < R.length ∧ gs st.spots x.toNat = r ∧ 0 ≤ gv st.spots x.toNat ∧ gv st.spots x.toNat + gs G x.toNat ≤ ix R r - ix st.left r
 sum : ∀ r : Nat, r < R.length → sumOn G st.spots r P = ix R r - ix st.left r
 lo : ∀ r : Nat, r < R.length → 0 ≤ ix st.left r ∧ ix st.left r ≤ ix R r
 room : ∀ r : Nat, r < R.length → ix st.left r = ix R r ∨ fits single (ix st.left r) = true
 top : ∀ r : Nat, r < R.length → ix st.left r = ix R r ∨ ∃ x ∈ P, gs st.spots x.toNat = r ∧ gv st.spots x.toNat + gs G x.toNat = ix R r - ix st.left r
 apart : ∀ x ∈ P, ∀ y ∈ P, x ≠ y → 0 ≤ gs st.spots x.toNat → gs st.spots x.toNat = gs st.spots y.toNat → gv st.spots x.toNat + gs G x.toNat ≤ gv st.spots y.toNat ∨ gv st.spots y.toNat + gs G y.toNat ≤ gv st.spots x.toNat











end Go.Proofs.YthabgljdndbphaaGreatDoor

namespace Go.Proofs.YthabgljdndbphaaGreatDoor
open Go.RowKit


structure SeatMore (G : List (Int × Int)) (P : List Int) (st : PackSt) : Prop where
 sl : st.spots.length = G.length
 skip : ∀ k, k < G.length → gs st.spots k = -1 → gv st.spots k = 0
 fresh : ∀ k : Nat, k < G.length → (k : Int) ∉ P → gv st.spots k = 0
 value : st.value = amtV G (taken G st.spots) P




/-! ### A row without a gap is permitted -/







end Go.Proofs.YthabgljdndbphaaGreatDoor
