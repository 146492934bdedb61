/- pack: what the closure value works on; its loop, plain. -/
import Derived.Test.YthabgljdndbphaaGreatDoorQPKL23

set_option linter.unusedVariables false
set_option linter.unusedSimpArgs false
namespace Go.Proofs.YthabgljdndbphaaGreatDoor
open Go.RowKit Go.IntWalk Go.Maps Go.WideMaps
set_option linter.unusedSimpArgs false
set_option linter.unusedVariables false

/-! ### w' is w but for one map and what is new -/
structure MUpd (M : Nat) (w w' : World) : Prop where
 grown : w.grownBy w' (some M)
 map : ∃ es ck, w.heap[M]? = some (.map es ck)
 map' : ∃ es ck, w'.heap[M]? = some (.map es ck)
section
variable {M : Nat} {w w' w'' : World}
theorem MUpd.refl (h : ∃ es ck, w.heap[M]? = some (.map es ck)) : MUpd M w w := ⟨grown_refl w _, h, h⟩
theorem MUpd.trans (h : MUpd M w w') (k : MUpd M w' w'') : MUpd M w w'' := ⟨grown_trans h.grown k.grown, h.map, k.map'⟩
theorem MUpd.of_below (h : Below w.heap.size w w') (hm : ∃ es ck, w.heap[M]? = some (.map es ck)) : MUpd M w w' := by
 refine ⟨grown_below h _, hm, ?_⟩
 obtain ⟨es, ck, e⟩ := hm
 exact ⟨es, ck, (h.block M (lt_of_block e)).trans e⟩
theorem MUpd.down (h : MUpd M w w') (k : Below w'.heap.size w' w'') : MUpd M w w'' := h.trans (MUpd.of_below k h.map')
theorem MUpd.block (h : MUpd M w w') {b : Nat} {arr : Array Value} {T : TypeId} {x : Nat × Nat} (hb : w.heap[b]? = some (.cells arr T x)) : w'.heap[b]? = some (.cells arr T x) := by
 obtain ⟨es, ck, e⟩ := h.map
 refine (h.grown.block b (lt_of_block hb) (fun e2 => ?_)).trans hb
 cases e2
 rw [hb] at e
 cases e
theorem MUpd.other (h : MUpd M w w') {b : Nat} (hb : b < w.heap.size) (hne : b ≠ M) : w'.heap[b]? = w.heap[b]? :=
 h.grown.block b hb (fun e => hne (by cases e; rfl))
theorem MUpd.cell (h : MUpd M w w') {p : Addr} {v : Value} (hc : w.cell? p = some v) : w'.cell? p = some v := by
 have hb : ∃ arr T x, w.heap[p.block]? = some (.cells arr T x) := by
  unfold World.cell? at hc
  split at hc
  ·
   exact ⟨_, _, _, by assumption⟩
  ·
   cases hc
 obtain ⟨arr, T, x, hb⟩ := hb
 have h2 := h.block hb
 rw [World.cell?_of_block (w := w) (w' := w') (by rw [h2, hb])]
 exact hc
theorem MUpd.recs (h : MUpd M w w') {α : Type} {k n : Nat} {E : Enc α k} {ra : Option Addr} {xs : List α} (hr : Recs E w ra n xs) : Recs E w' ra n xs :=
 ⟨hr.1, fun i hi => let ⟨b, o, e, c⟩ := hr.2 i hi; ⟨b, o, e, fun j hj => h.cell (c j hj)⟩⟩
theorem MUpd.pairs (h : MUpd M w w') {ga : Option Addr} {m : Nat} {G : List (Int × Int)} (hp : Pairs w ga m G) : Pairs w' ga m G :=
 ⟨hp.1, fun k hk => let ⟨b, o, e, c0, c1⟩ := hp.2 k hk; ⟨b, o, e, h.cell c0, h.cell c1⟩⟩
theorem MUpd.ints (h : MUpd M w w') {ga : Option Addr} {m : Nat} {R : List Int} (hp : Ints w ga m R) : Ints w' ga m R :=
 ⟨hp.1, fun k hk => let ⟨b, o, e, c0⟩ := hp.2 k hk; ⟨b, o, e, h.cell c0⟩⟩
theorem MUpd.kit (h : MUpd M w w') (hk : PKit w) : PKit w' := by
 unfold PKit Lib.TabIs World.var? at *
 have hg : Tryz.prog.globalNamed "internal/strconv.uint64pow10" = some 0 := by kernel_rfl
 rw [hg] at hk ⊢
 simp only [Option.bind_some] at hk ⊢
 split at hk
 ·
  rename_i hb
  rw [h.block hb]
  exact hk
 ·
  cases hk
end

/-- Where the closure's variables lie. -/
structure VA where
 (pb kb vb mb : Nat)
 (ra ga : Option Addr)
 (rn rc m gc : Nat)
 single : Bool
 G : List (Int × Int)
/-- The closure's variables, apart from what is known. -/
structure VEnv (V : VA) (w : World) : Prop where
 prob : w.heap[V.pb]? = some (.cells #[.slice V.ra V.rn V.rc, .slice V.ga V.m V.gc, .bool V.single] 25 (0, 0))
 known : w.heap[V.kb]? = some (.cells #[.map (some V.mb)] 102 (0, 0))
 value : w.heap[V.vb]? = some (.cells #[.func (.func 57) #[] #[.pointer (some ⟨V.pb, 0, none⟩), .pointer (some ⟨V.kb, 0, none⟩), .pointer (some ⟨V.vb, 0, none⟩)]] 88 (0, 0))
 groups : Pairs w V.ga V.m V.G
 kit : PKit w
 map : ∃ es ck, w.heap[V.mb]? = some (.map es ck)
theorem VEnv.upd {V : VA} {w w' : World} (h : VEnv V w) (hu : MUpd V.mb w w') : VEnv V w' :=
 ⟨hu.block h.prob, hu.block h.known, hu.block h.value, hu.pairs h.groups, hu.kit h.kit, hu.map'⟩
theorem VEnv.down {V : VA} {w w' : World} (h : VEnv V w) (hb : Below w.heap.size w w') : VEnv V w' := h.upd (MUpd.of_below hb h.map)

theorem VEnv.other {V : VA} {w w' : World} {tb : Nat} (h : VEnv V w) (hu : MUpd tb w w') (hne : tb ≠ V.mb) : VEnv V w' :=
 ⟨hu.block h.prob, hu.block h.known, hu.block h.value, hu.pairs h.groups, hu.kit h.kit, by
  obtain ⟨es, ck, e⟩ := h.map
  exact ⟨es, ck, (hu.other (lt_of_block e) (fun e => hne e.symm)).trans e⟩⟩
theorem MUpd.over {M tb : Nat} {w w' w'' : World} (h : MUpd M w w') (k : MUpd tb w' w'') (ht : w.heap.size ≤ tb) (hne : tb ≠ M) : MUpd M w w'' := by
 obtain ⟨es, ck, e⟩ := h.map'
 refine ⟨⟨k.grown.os.trans h.grown.os, k.grown.tape.trans h.grown.tape, k.grown.output.trans h.grown.output, Nat.le_trans h.grown.size k.grown.size, fun i hi hn => ?_⟩, h.map, ⟨es, ck, (k.other (lt_of_block e) (fun e => hne e.symm)).trans e⟩⟩
 rw [k.other (Nat.lt_of_lt_of_le hi h.grown.size) (by omega)]
 exact h.grown.block i hi hn

/-! ### How much may become known -/
def vcap (n : Nat) : Nat → Nat
 | 0 => 0
 | k + 1 => 1 + (n + 1) * vcap n k

/-! ### The loop over the runs -/
section
variable (single : Bool) (G : List (Int × Int)) (k g : Nat) (L : List (Int × Bool))
def packN (i : Nat) : Int := bestLoop (bestF single G k (g + 1)) (gs G g) (gv G g) (L.map (·.1)) (L.map (·.2)) (packF single G k (g + 1) L) i
variable {single G k g L}
theorem packN_zero : packN single G k g L 0 = packF single G k (g + 1) L := rfl
theorem packN_all : packN single G k g L L.length = packF single G (k + 1) g L := by
 unfold packN packF
 rw [bestF, List.length_map]
theorem ix_fst {L : List (Int × Bool)} {i : Nat} (hi : i < L.length) : ix (L.map (·.1)) i = L[i].1 := by unfold ix; simp [hi]
theorem go_sit {i : Nat} (hi : i < L.length) : bestF single G k (g + 1) ((L.map (·.1)).set i (ix (L.map (·.1)) i - gs G g)) ((L.map (·.2)).set i true) = packF single G k (g + 1) (sitF L i (gs G g)) := by
 unfold packF
 rw [(sit_maps L hi _).1, (sit_maps L hi _).2]
theorem packN_small {i : Nat} (hi : i < L.length) (h : L[i].1 < gs G g) : packN single G k g L (i + 1) = packN single G k g L i := by
 unfold packN
 rw [bestLoop, ix_fst hi, if_pos h]
theorem packN_sit {i : Nat} (hi : i < L.length) (h : ¬ L[i].1 < gs G g) : packN single G k g L (i + 1) = if 0 ≤ packF single G k (g + 1) (sitF L i (gs G g)) then max (packN single G k g L i) (packF single G k (g + 1) (sitF L i (gs G g)) + gs G g * gv G g) else packN single G k g L i := by
 have := go_sit (single := single) (G := G) (k := k) (g := g) hi
 unfold packN
 rw [bestLoop, ix_fst hi, if_neg h]
 rw [ix_fst hi] at this
 rw [this]
theorem packN_tried {i j : Nat} (hi : i < L.length) (hj : j < i) (h : ¬ L[i].1 < gs G g) (e : L[j]'(by omega) = L[i]) : packN single G k g L (i + 1) = packN single G k g L i := by
 rw [packN_sit hi h]
 by_cases h0 : 0 ≤ packF single G k (g + 1) (sitF L i (gs G g))
 ·
  rw [if_pos h0]
  have hjl : j < L.length := by omega
  have e2 : packF single G k (g + 1) (sitF L j (gs G g)) = packF single G k (g + 1) (sitF L i (gs G g)) := packF_alike single G k (g + 1) hjl hi e _
  have := pkLoop_each (bestF single G k (g + 1)) (gs G g) (gv G g) (L.map (·.1)) (L.map (·.2)) (packF single G k (g + 1) L) i j hj (by rw [ix_fst hjl, e]; omega) (by rw [go_sit hjl, e2]; exact h0)
  rw [go_sit hjl, e2] at this
  exact Int.max_eq_left this
 ·
  rw [if_neg h0]
theorem packF_range (hv : ValuesOk G) (hg : g + k = G.length) : -1 ≤ packF single G k g L ∧ packF single G k g L ≤ 12000000 * k := bestF_bounds hv k g _ _ hg
theorem packN_range (hv : ValuesOk G) (hg : g + 1 + k = G.length) (i : Nat) (hi : i ≤ L.length) : -1 ≤ packN single G k g L i ∧ packN single G k g L i ≤ 12000000 * (k + 1) := by
 have hgv := hv g (by omega)
 induction i with
 | zero =>
  rw [packN_zero]
  have := packF_range (single := single) (L := L) hv hg
  omega
 | succ i ih =>
  have ih := ih (by omega)
  by_cases hs : L[i].1 < gs G g
  ·
   rw [packN_small (by omega) hs]; exact ih
  ·
   rw [packN_sit (by omega) hs]
   have h2 := packF_range (single := single) (L := sitF L i (gs G g)) hv hg
   have h3 : gs G g * gv G g ≤ 12 * 1000000 := Int.mul_le_mul hgv.1.2 hgv.2.2 hgv.2.1 (by omega)
   split
   ·
    rw [Int.max_def]
    split <;> omega
   ·
    exact ih
theorem sit_range {L : List (Int × Bool)} {i : Nat} {s : Int} (hi : i < L.length) (h : ∀ r ∈ L, 0 ≤ r.1 ∧ r.1 ≤ 4000) (hs : 0 ≤ s) (hr : ¬ L[i].1 < s) : ∀ r ∈ sitF L i s, 0 ≤ r.1 ∧ r.1 ≤ 4000 := by
 intro r hr'
 rw [sit_eq L i hi] at hr'
 rcases List.mem_or_eq_of_mem_set hr' with h1 | rfl
 ·
  exact h r h1
 ·
  have := h L[i] (List.getElem_mem hi)
  dsimp only
  omega
end
theorem leaf_one (single : Bool) (L : List (Int × Bool)) : (single = true ∧ ∃ r ∈ L, r.2 = true ∧ r.1 = 1) ↔ single = true ∧ L.any oneP = true := by
 refine and_congr_right fun _ => ?_
 rw [List.any_eq_true]
 constructor
 ·
  rintro ⟨r, h1, h2, h3⟩
  exact ⟨r, h1, by unfold oneP; simp [h2, h3]⟩
 ·
  rintro ⟨r, h1, h2⟩
  unfold oneP at h2
  simp at h2
  exact ⟨r, h1, h2⟩
end Go.Proofs.YthabgljdndbphaaGreatDoor
