/- foyerref23.search: the walk. -/
import Derived.Test.YthabgljdndbphaaGreatDoorQPKM41
import Derived.Test.YthabgljdndbphaaGreatDoorQPKM43
import Derived.Test.YthabgljdndbphaaGreatDoorQPKM44
import Derived.Test.YthabgljdndbphaaGreatDoorQPKM45

set_option linter.unusedVariables false
set_option linter.unusedSimpArgs false
namespace Go.Proofs.YthabgljdndbphaaGreatDoor
open Go.RowKit Go.IntWalk Go.Maps Go.WideMaps
set_option linter.unusedSimpArgs false
set_option linter.unusedVariables false

/-- A problem in a variable. -/
structure RfAt (w : World) (gp : Nat) (ra ga : Option Addr) (c d : Nat) (single : Bool) (R : List Int) (G : List (Int × Int)) : Prop where
 box : w.heap[gp]? = some (.cells #[.slice ra R.length c, .slice ga G.length d, .bool single] 25 (0, 0))
 runs : Ints w ra R.length R
 groups : Pairs w ga G.length G
theorem RfAt.below {w w' : World} {gp : Nat} {ra ga : Option Addr} {c d : Nat} {single : Bool} {R : List Int} {G : List (Int × Int)} (h : RfAt w gp ra ga c d single R G) (hb : Below w.heap.size w w') : RfAt w' gp ra ga c d single R G :=
 ⟨(hb.block _ (lt_of_block h.box)).trans h.box, h.runs.below hb, h.groups.below hb⟩
theorem ints_rcsN {w : World} {ra : Option Addr} {n c : Nat} {R : List Int} (h : Ints w ra n R) (hc : ra = none → c = 0) : Rcs IntE w (.slice ra n c) R := by
 obtain rfl := h.1
 exact ints_rcs h hc
theorem getD_map (L : List (Int × Bool)) (i : Nat) : ix (L.map (·.1)) i = (L.getD i (0, false)).1 := by
 unfold ix
 simp only [List.getD_eq_getElem?_getD, List.getElem?_map]
 cases L[i]? <;> rfl
def SrchP (C : List Int) (o : Option (List Int)) (w : World) (e : Ending) (w' : World) : Prop :=
 ∃ oa oc, e = .returned (.slice oa (outL C o).length oc) ∧ Below w.heap.size w w' ∧ Ints w' oa (outL C o).length (outL C o)
set_option maxRecDepth 100000 in
set_option maxHeartbeats 32000000 in
theorem search_any (single : Bool) (R : List Int) (G : List (Int × Int)) (hv : validS R G = true) (hn : R.length ≤ 40) (hm : G.length ≤ 8) (val : Int) (hval : 0 ≤ val ∧ val ≤ 1000000000) (ra ga : Option Addr) (c d : Nat) :
  ∀ (k g : Nat) (C : List Int) (L : List (Int × Bool)) (w : World) (ca la : Option Addr) (cc lc : Nat), g + k = G.length → C.length = g → At R G (ix C) g L → (∀ x ∈ L, 0 ≤ x.1) → Ints w ra R.length R → Pairs w ga G.length G → Ints w ca g C → Ints w la R.length (L.map (·.1)) → (ca = none → cc = 0) → (la = none → lc = 0) →
   Calls Tryz.prog 28 #[.agg #[.slice ra R.length c, .slice ga G.length d, .bool single], .slice ca g cc, .slice la R.length lc, .int .i64 val] w (SrchP C (srchF single G k g L (val - valS G (dec (ix C) g))) w) := by
 intro k
 induction k with
 | zero =>
  intro g C L w ca la cc lc hgk hCg hat hnn hR hG hC hL hcc hlc
  have HV := Lib.hid hv
  have HAT := Lib.hid hat
  have HNN := Lib.hid hnn
  have HCL := Lib.hid hCg
  have HC0 := Lib.hid hC
  have HL0 := Lib.hid hL
  have h1 := heap_new w (.cells #[.slice ra R.length c, .slice ga G.length d, .bool single] 25)
  have b1 := Joins.below_alloc1 w (.cells #[.slice ra R.length c, .slice ga G.length d, .bool single] 25)
  have HP : Hid (RfAt (w.alloc (.cells #[.slice ra R.length c, .slice ga G.length d, .bool single] 25)) w.heap.size ra ga c d single R G) := ⟨h1, hR.below b1, hG.below b1⟩
  have HC := Lib.hid (hC.below b1)
  have HL := Lib.hid (hL.below b1)
  have HB := Lib.hid b1
  clear hv hat hnn hCg hC hL hR hG h1 b1 HC0 HL0
  refine enter_fr (N := 92) [.agg #[.slice ra R.length c, .slice ga G.length d, .bool single], .slice ca g cc, .slice la R.length lc, .int .i64 val] (Tryz.func28) rfl Tryz.ntmps28 (by rfl) (fun a hF => ?_);replace hF := hF.kp [0, 1, 2, 3] rfl;refine wp_seq_k (fun K hK => ?_);refine region_seq (l := [0, 1]) (by kernel_rfl) ?_;refine seq_one ?_;revert hF;refine qe1 fun a hF => ?_
  generalize w.alloc (.cells #[.slice ra R.length c, .slice ga G.length d, .bool single] 25) = w1 at *
  obtain ⟨gp, hgp⟩ : ∃ x, x = w.heap.size := ⟨_, rfl⟩
  rw [← hgp] at hF HP
  clear hgp
  revert hF;refine zre 1 [2] [1, 2, 3, 4] fun a hF => ?_;refine hK _ _ ?_;clear hK;revert hF;refine zrs [1, 4, 2] [1, 2, 3, 4, 9] fun a hF => ?_
  obtain rfl : g = G.length := by omega
  clear hgk
  have HLF := Lib.hid (search_leaf (single := single) HV.out HAT.out HNN.out)
  have k0 := boxed_cell (j := 0) HP.out.box rfl
  have k1 := boxed_cell (j := 1) HP.out.box rfl
  have k2 := boxed_cell (j := 2) HP.out.box rfl
  have hq : ((G.length : Int) == (G.length : Int)) = true := by simp
  refine wp_seq_k (fun K hK => ?_);revert hF;refine zrs [1, 4, 4, 4, 5] [1, 2, 3, 4, 9, 20] fun a hF => ?_
  clear hq
  refine cond_yes hF rfl ?_
  refine wp_seq_k (fun K hK => ?_);revert hF;refine zrp [4, 1] [2, 3, 4] fun a hF => ?_;revert hF;refine zos fun K hK => ?_
  refine (compact_any w1 ra ga ca c G.length d cc single R C G (by omega) (by omega) HP.out.groups HC.out (validS_parts HV.out).2.2 HAT.out.runs).mono ?_
  rintro e w2 ⟨sa, sc, rfl, hb, hp⟩
  clear k0 k1 k2
  have HB := Lib.hid (HB.out.trans (hb.mono HB.out.size))
  have HP := Lib.hid (HP.out.below hb)
  have HC := Lib.hid (HC.out.below hb)
  have HX2 := Lib.hid hp
  clear hb hp
  obtain ⟨V, hV⟩ : ∃ x, x = valS G (dec (ix C) G.length) := ⟨_, rfl⟩
  rw [← hV] at HLF ⊢
  have HVE := Lib.hid hV
  clear hV
  refine hK _ _ (fun a hF => ?_);clear hK K;refine seq_one ?_;revert hF;refine qe0 fun a hF => ?_
  obtain ⟨wa, gx, e1, e2, hSV, HN⟩ := px_var (sc := sc) (V0 := V) HX2.out
  rw [e1]
  rw [← e2] at hF
  clear e1 e2
  refine seq_one ?_;refine op_storev rfl rfl hF rfl rfl rfl rfl hSV ?_;clear hF;refine fun a hF => ?_
  clear hSV
  have HB := Lib.hid (HB.out.trans (HN.out.1.mono HB.out.size))
  have HP := Lib.hid (HP.out.below HN.out.1)
  have HC := Lib.hid (HC.out.below HN.out.1)
  have HX := Lib.hid HN.out.2
  clear HN HX2
  generalize wa.setRow gx _ = w3 at *
  refine seq_end ?_;replace hF := hF.kp [1, 3, 4, 10] rfl;refine hK _ _ ?_;clear hK;refine wp_seq_k (fun K hK => ?_);refine wp_seq_k (fun K hK => ?_)
  have k0 := boxed_cell (j := 0) HP.out.box rfl
  have k1 := boxed_cell (j := 1) HP.out.box rfl
  have k2 := boxed_cell (j := 2) HP.out.box rfl
  have x0 := boxed_cell (j := 0) HX.out.box rfl
  have x1 := boxed_cell (j := 1) HX.out.box rfl
  by_cases hVv : V = val
  rotate_left
  ·
   have HVV := Lib.hid hVv
   have hq : (V == val) = false := by simp [hVv]
   clear hVv
   have HSE : Hid (srchF single G 0 G.length L (val - valS G (dec (ix C) G.length)) = none) := by
    show _ = _
    rw [← HVE.out, srchF, if_neg (fun h => HVV.out (by omega))]
   revert hF;refine zrg [4, 4, 1, 5, 1, 0, 0, 0, 5] [1, 32] fun a hF => ?_
   clear hq x0 x1 k0 k1 k2
   refine hK _ _ ?_;clear hK
   refine cond_no hF rfl ?_
   refine wp_skip ?_
   refine hK _ _ ?_;clear hK;revert hF;refine zrs [2] [8] fun a hF => ?_
   rw [HSE.out]
   refine wp_ret ?_;(try simp only [then_ret, block_ret, goto_ret]);revert hF;refine zq ?_
   exact ⟨none, 0, rfl, HB.out, rfl, fun k hk => absurd hk (Nat.not_lt_zero _)⟩
  have HVV := Lib.hid hVv
  have hq : (V == val) = true := by simp [hVv]
  clear hVv
  revert hF;refine zrp [4, 4, 1, 5, 1, 4, 4] [7, 8] fun a hF => ?_;revert hF;refine zos fun K hK => ?_
  refine (refLegal_any ra ga sa R.length c G.length d G.length sc single V R G (seatAll G (ix C)) w3 (by omega) (by omega) (by omega) HP.out.runs HP.out.groups HX.out.spots).mono ?_
  rintro e w4 ⟨q, rfl, hb, hqq⟩
  have HB := Lib.hid (HB.out.trans (hb.mono HB.out.size))
  have HC := Lib.hid (HC.out.below hb)
  clear hb hq x0 x1 k0 k1 k2
  have HQ := Lib.hid (hqq.trans HLF.out)
  clear hqq
  cases q with
  | false =>
   have HSE : Hid (srchF single G 0 G.length L (val - valS G (dec (ix C) G.length)) = none) := by
    show _ = _
    rw [← HVE.out, srchF, if_neg (fun h => by
     have := HQ.out.mpr h.2
     cases this)]
   refine hK _ _ (fun a hF => ?_);clear hK K;revert hF;refine zre 8 [5] [1, 32] fun a hF => ?_;refine hK _ _ ?_;clear hK
   refine cond_no hF rfl ?_
   refine wp_skip ?_
   refine hK _ _ ?_;clear hK;revert hF;refine zrs [2] [8] fun a hF => ?_
   rw [HSE.out]
   refine wp_ret ?_;(try simp only [then_ret, block_ret, goto_ret]);revert hF;refine zq ?_
   exact ⟨none, 0, rfl, HB.out, rfl, fun k hk => absurd hk (Nat.not_lt_zero _)⟩
  | true =>
   have HSE : Hid (srchF single G 0 G.length L (val - valS G (dec (ix C) G.length)) = some []) := by
    show _ = _
    rw [← HVE.out, srchF, if_pos ⟨by have := HVV.out; omega, HQ.out.mp rfl⟩]
   refine hK _ _ (fun a hF => ?_);clear hK K;revert hF;refine zre 8 [5] [1, 32] fun a hF => ?_;refine hK _ _ ?_;clear hK
   refine cond_yes hF rfl ?_
   obtain ⟨B0, hB0⟩ : ∃ x, x = w4.heap.size := ⟨_, rfl⟩
   have A0 := Lib.hid (AS.start (E := IntE) (T := 3) (a := 0) B0 w4 (by rw [hB0]; exact Nat.le_refl _))
   have HBB : Hid (∀ x, Below B0 w4 x → Below w4.heap.size w4 x) := fun x h => by rw [← hB0]; exact h
   clear hB0
   refine wp_seq_k (fun K hK => ?_);refine region_seq (l := [0, 1, 2, 3]) (by kernel_rfl) ?_;refine seq_one ?_;revert hF;refine qe0 fun a hF => ?_
   have A1 := Lib.hid A0.out.lit
   clear A0
   generalize w4.alloc (.cells #[] 3) = w5 at *
   obtain ⟨g0, hg0⟩ : ∃ x, x = w4.heap.size := ⟨_, rfl⟩
   rw [← hg0] at hF A1
   clear hg0
   obtain ⟨la6, lc6, w6, hAPP, hA2⟩ := A1.out.app 22 22 Tryz.underlying22 info_int rfl (by decide) (ints_rcsN (HC.out.below (HBB.out _ A1.out.below)) hcc) (D' := C) rfl (by rw [HCL.out]; omega)
   have A2 := Lib.hid hA2
   clear hA2 A1
   revert hF;refine zrc 1 [1] [2, 3] fun a hF => ?_;refine seq_one ?_;refine op_append rfl rfl rfl rfl rfl hF rfl rfl rfl hAPP (fun a hF => ?_);clear hAPP;revert hF;refine zre 3 [2] [8] fun a hF => ?_;refine hK _ _ ?_;clear hK
   rw [HSE.out]
   refine wp_ret ?_;(try simp only [then_ret, block_ret, goto_ret]);revert hF;refine zq ?_
   refine ⟨la6, lc6, ?_, HB.out.trans ((HBB.out _ A2.out.below).mono HB.out.size), ?_⟩
   ·
    show _ = Ending.returned (.slice la6 (C ++ []).length lc6)
    rw [List.append_nil]
    rfl
   ·
    show Ints w6 la6 (C ++ []).length (C ++ [])
    rw [List.append_nil]
    exact recs_ints A2.out.recs
 | succ k ih =>
  intro g C L w ca la cc lc hgk hCg hat hnn hR hG hC hL hcc hlc
  have HV := Lib.hid hv
  have HAT := Lib.hid hat
  have HNN := Lib.hid hnn
  have HCL := Lib.hid hCg
  have HC0 := Lib.hid hC
  have HL0 := Lib.hid hL
  have h1 := heap_new w (.cells #[.slice ra R.length c, .slice ga G.length d, .bool single] 25)
  have b1 := Joins.below_alloc1 w (.cells #[.slice ra R.length c, .slice ga G.length d, .bool single] 25)
  have HP : Hid (RfAt (w.alloc (.cells #[.slice ra R.length c, .slice ga G.length d, .bool single] 25)) w.heap.size ra ga c d single R G) := ⟨h1, hR.below b1, hG.below b1⟩
  have HC := Lib.hid (hC.below b1)
  have HL := Lib.hid (hL.below b1)
  have HB := Lib.hid b1
  clear hv hat hnn hCg hC hL hR hG h1 b1 HC0 HL0
  refine enter_fr (N := 92) [.agg #[.slice ra R.length c, .slice ga G.length d, .bool single], .slice ca g cc, .slice la R.length lc, .int .i64 val] (Tryz.func28) rfl Tryz.ntmps28 (by rfl) (fun a hF => ?_);replace hF := hF.kp [0, 1, 2, 3] rfl;refine wp_seq_k (fun K hK => ?_);refine region_seq (l := [0, 1]) (by kernel_rfl) ?_;refine seq_one ?_;revert hF;refine qe1 fun a hF => ?_
  generalize w.alloc (.cells #[.slice ra R.length c, .slice ga G.length d, .bool single] 25) = w1 at *
  obtain ⟨gp, hgp⟩ : ∃ x, x = w.heap.size := ⟨_, rfl⟩
  rw [← hgp] at hF HP
  clear hgp
  revert hF;refine zre 1 [2] [1, 2, 3, 4] fun a hF => ?_;refine hK _ _ ?_;clear hK;revert hF;refine zrs [1, 4, 2] [1, 2, 3, 4, 9] fun a hF => ?_
  have HIH := Lib.hid ih
  clear ih
  have HLN : Hid (L.length = R.length) := HAT.out.len
  have HXB : Hid (∀ i, i < R.length → ∀ x : Int, x = ix (L.map (·.1)) i → x ≤ 100000) := fun i hi x hx => by
   have hlo := room_high HV.out HAT.out (by omega) hi (by rw [HLN.out]; exact hi)
   rw [hx, getD_map]
   have hil : i < L.length := by rw [HLN.out]; exact hi
   have : L[i].1 ≤ 100000 := by omega
   simpa [hil] using this
  have hq : ((g : Int) == (G.length : Int)) = false := by
   have : ¬ (g : Int) = (G.length : Int) := by omega
   simpa using this
  have p1 := boxed_cell (j := 1) HP.out.box rfl
  refine wp_seq_k (fun K hK => ?_);revert hF;refine zrs [1, 4, 4, 4, 5] [1, 2, 3, 4, 9, 20] fun a hF => ?_
  clear hq p1
  refine cond_no hF rfl ?_
  refine wp_skip ?_
  refine hK _ _ ?_;clear hK
  have HS0 : Hid (Below w1.heap.size w1 w1) := Below.refl _ _
  have HSR0 : Hid (srchF single G (k + 1) g L (val - valS G (dec (ix C) g)) = srchL (srchF single G k (g + 1)) (gs G g) (gs G g * gv G g) L (val - valS G (dec (ix C) g)) 0 (R.length - 0)) := by
   show _ = _
   rw [srchF, HLN.out]
   rfl
  refine seq_cut (fun a' w' => FrF 92 [] [(1, .slice ca g cc), (2, .slice la R.length lc), (3, .int .i64 val), (4, .pointer (some ⟨gp, 0, none⟩)), (9, .int .i64 g)] a' ∧ Hid (Below w1.heap.size w1 w') ∧ Hid (srchF single G (k + 1) g L (val - valS G (dec (ix C) g)) = srchL (srchF single G k (g + 1)) (gs G g) (gs G g * gv G g) L (val - valS G (dec (ix C) g)) R.length (R.length - R.length))) (fun KAi hKAi => ?_) ?_
  ·
   skip
   revert hF;refine zrs [2] [1, 2, 3, 4, 9, 11] fun a hF => ?_
   refine wp_block ?_
   refine loop_fr (fun qi a' w' => ∃ i : Nat, i + qi = R.length ∧ FrF 92 [] [(1, .slice ca g cc), (2, .slice la R.length lc), (3, .int .i64 val), (4, .pointer (some ⟨gp, 0, none⟩)), (9, .int .i64 g), (11, .int .i64 i)] a' ∧ Hid (Below w1.heap.size w1 w') ∧ Hid (srchF single G (k + 1) g L (val - valS G (dec (ix C) g)) = srchL (srchF single G k (g + 1)) (gs G g) (gs G g * gv G g) L (val - valS G (dec (ix C) g)) i (R.length - i))) (R.length) ⟨0, by omega, hF, HS0, HSR0⟩ ?_
   clear hF HS0  HSR0
   rintro rki a wr ⟨i, hiki, hF, HS, HSR⟩ KBi hKBi
   refine wp_seq_k (fun K hK => ?_)
   by_cases hlt : i < R.length
   rotate_left
   ·
    have hlti : ¬ (i : Int) < (R.length : Nat) := by omega
    have p0 := boxed_cell (j := 0) (HP.out.below HS.out).box rfl
    revert hF;refine zrs [1, 4, 4, 4, 5] [1, 2, 3, 4, 9, 11, 40] fun a hF => ?_
    clear p0
    refine cond_no hF rfl ?_
    refine wp_exit ?_
    have hie : i = R.length := by omega
    rw [hie] at HSR
    exact hKAi _ _ ⟨hF.sub ⟨rfl, rfl, rfl, rfl, rfl, trivial⟩, HS, HSR⟩
   have hlti : (i : Int) < (R.length : Nat) := by omega
   have p0 := boxed_cell (j := 0) (HP.out.below HS.out).box rfl
   revert hF;refine zrs [1, 4, 4, 4, 5] [1, 2, 3, 4, 9, 11, 40] fun a hF => ?_
   clear p0
   refine cond_yes hF rfl ?_
   refine wp_skip ?_
   refine hK _ _ ?_;clear hK;replace hF := hF.kp [1, 2, 3, 4, 9, 11] rfl
   clear hKAi
   refine seq_cut (fun a' w' => FrF 92 [] [(1, .slice ca g cc), (2, .slice la R.length lc), (3, .int .i64 val), (4, .pointer (some ⟨gp, 0, none⟩)), (9, .int .i64 g), (11, .int .i64 i)] a' ∧ Hid (Below w1.heap.size w1 w') ∧ Hid (srchF single G (k + 1) g L (val - valS G (dec (ix C) g)) = srchL (srchF single G k (g + 1)) (gs G g) (gs G g * gv G g) L (val - valS G (dec (ix C) g)) (i + 1) (R.length - (i + 1)))) (fun KCi hKCi => ?_) ?_
   rotate_left
   ·
    clear hF HS HSR
    rintro a w' ⟨hF, HS, HSR⟩
    have hws : IntKind.i64.wrap ((i : Int) + 1) = ((i + 1 : Nat) : Int) := wrap_succ (by omega)
    revert hF;refine zrg [1, 4, 2] [1, 2, 3, 4, 9, 11] fun a hF => ?_
    exact hKBi (R.length - (i + 1)) _ _ (by omega) ⟨i + 1, by omega, hF, HS, HSR⟩
   clear hKBi hiki
   refine wp_block ?_
   have hil : i < L.length := by rw [HLN.out]; exact hlt
   have hir : (i : Int) < (R.length : Nat) := by omega
   have hgG : g < G.length := by omega
   have hgG' : (g : Int) < (G.length : Nat) := by omega
   have hgv := (validS_parts HV.out).2.2 g hgG
   have hbd := below_d (Below.refl wr.heap.size wr)
   have HBd := Lib.hid (HS.out.trans (hbd.mono HS.out.size))
   clear hbd HS
   obtain ⟨bl, ol, hla, c0⟩ := (HL.out.below HBd.out).2 i hlt
   obtain ⟨bg, og, hga, e0, _⟩ := (HP.out.below HBd.out).groups.2 g hgG
   have p1 := boxed_cell (j := 1) (HP.out.below HBd.out).box rfl
   rw [hga] at p1
   have HLA := Lib.hid hla
   rw [hla] at hF
   have hxe : ix (L.map (·.1)) i = (L.getD i (0, false)).1 := getD_map L i
   have hxl : 0 ≤ ix (L.map (·.1)) i := by
    rw [hxe]
    have := HNN.out L[i] (List.getElem_mem hil)
    simpa [hil] using this
   have HNX := Lib.hid hxe
   clear hxe hga hla
   obtain ⟨s, hs⟩ : ∃ x, x = gs G g := ⟨_, rfl⟩
   obtain ⟨x, hx⟩ : ∃ x, x = ix (L.map (·.1)) i := ⟨_, rfl⟩
   rw [← hs] at e0 hgv HSR hKCi
   rw [← hx] at c0 hxl HNX
   have HSE := Lib.hid hs
   clear hs
   refine wp_seq_k (fun K hK => ?_);refine wp_seq_k (fun K hK => ?_)
   by_cases hlow : x < s
   ·
    have hq : decide (x < s) = true := by simpa using hlow
    have hnx := srchL_skip (go := srchF single G k (g + 1)) (s := s) (b := s * gv G g) (L := L) (X := val - valS G (dec (ix C) g)) (r := i) (n := R.length - (i + 1)) (by rw [← HNX.out]; exact hlow)
    have hsp : R.length - i = R.length - (i + 1) + 1 := by omega
    rw [hsp, hnx] at HSR
    clear hnx hsp hx
    refine region_any (by kernel_rfl) ?_;generalize wr.drew = wd1 at *;revert hF;refine zrb (fuel := 0) [1, 33, 74, 116, 137, 180, 193, 234, 265, 308, 330] [1, 2, 3, 4, 9, 11, 53] fun a hF => ?_
    clear hq c0 e0 p1
    refine hK _ _ ?_;clear hK
    refine cond_yes hF rfl ?_
    refine wp_exit ?_
    rw [← HLA.out] at hF
    exact hKCi _ _ ⟨hF.sub ⟨rfl, rfl, rfl, rfl, rfl, rfl, trivial⟩, HBd, HSR⟩
   have hq : decide (x < s) = false := by simpa using hlow
   have HX0 := Lib.hid hx
   clear hx
   refine region_any (by kernel_rfl) ?_;generalize wr.drew = wd1 at *;revert hF;refine zrb (fuel := 0) [1, 33, 74, 116, 137, 180, 193, 234, 265, 308, 330] [1, 2, 3, 4, 9, 11, 53] fun a hF => ?_
   clear hq c0 e0 p1
   refine hK _ _ ?_;clear hK
   refine cond_no hF rfl ?_
   refine wp_skip ?_
   refine hK _ _ ?_;clear hK
   rw [← HLA.out] at hF
   have hxm : 1 ≤ R.length := by omega
   have hat' := at_sit_snoc (r := i) (G := G) (R := R) (C := C) (L := L) (by rw [HCL.out]; exact HAT.out) hlt
   rw [HCL.out, ← HSE.out] at hat'
   have hmp := (sit_maps L (q := i) hil s).1
   rw [← HX0.out] at hmp
   have hve := val_sit_snoc (G := G) (C := C) (r := i)
   rw [HCL.out, ← HSE.out] at hve
   have hnn' : ∀ y ∈ sitF L i s, 0 ≤ y.1 := fun y hy => by
    obtain ⟨q, hq, rfl⟩ := List.mem_iff_getElem.1 hy
    rw [sit_get hil]
    split
    ·
     have : x = L[i].1 := by rw [HNX.out]; simp [hil]
     dsimp only
     omega
    ·
     exact HNN.out _ (List.getElem_mem _)
   have hnl : ¬ (L.getD i (0, false)).1 < s := by rw [← HNX.out]; exact hlow
   have hsp : R.length - i = R.length - (i + 1) + 1 := by omega
   rw [hsp] at HSR
   have HSS : Hid (∀ cs, srchF single G k (g + 1) (sitF L i s) (val - valS G (dec (ix C) g) - s * gv G g) = some cs → srchF single G (k + 1) g L (val - valS G (dec (ix C) g)) = some ((i : Int) :: cs)) := fun cs e => by rw [HSR.out, srchL_some hnl e]
   have HSN : Hid (srchF single G k (g + 1) (sitF L i s) (val - valS G (dec (ix C) g) - s * gv G g) = none → srchF single G (k + 1) g L (val - valS G (dec (ix C) g)) = srchL (srchF single G k (g + 1)) s (s * gv G g) L (val - valS G (dec (ix C) g)) (i + 1) (R.length - (i + 1))) := fun e => by rw [HSR.out, srchL_none hnl e]
   have HVE : Hid (val - valS G (dec (ix (C ++ [(i : Int)])) (g + 1)) = val - valS G (dec (ix C) g) - s * gv G g) := by
    show _ = _
    rw [hve]
    omega
   have HAT' := Lib.hid hat'
   have HNN' := Lib.hid hnn'
   clear hat' hve hnn' hnl hsp HSR
   obtain ⟨L', hL'⟩ : ∃ x, x = sitF L i s := ⟨_, rfl⟩
   rw [← hL'] at HAT' HNN' HSS HSN hmp
   clear hL'
   have HMP := Lib.hid hmp
   clear hmp
   obtain ⟨D, hD⟩ : ∃ x, x = L.map (·.1) := ⟨_, rfl⟩
   have hDl : D.length = R.length := by rw [hD, List.length_map]; exact HLN.out
   have HLd := Lib.hid (HL.out.below HBd.out)
   rw [← hD] at HLd HMP HX0
   have HDX := HX0
   clear hD HX0
   -- next
   obtain ⟨B0, hB0⟩ : ∃ x, x = wd1.heap.size := ⟨_, rfl⟩
   have HBB : Hid (∀ x, Below B0 wd1 x → Below wd1.heap.size wd1 x) := fun x h => by rw [← hB0]; exact h
   have HBL : Hid (w1.heap.size ≤ B0) := by rw [hB0]; exact HBd.out.size
   have A0 := Lib.hid (AS.start (E := IntE) (T := 3) (a := 0) B0 wd1 (by rw [hB0]; exact Nat.le_refl _))
   clear hB0
   refine wp_seq_k (fun K hK => ?_);refine region_seq (l := [0, 1, 2, 3]) (by kernel_rfl) ?_;refine seq_one ?_;revert hF;refine qe0 fun a hF => ?_
   have A1 := Lib.hid A0.out.lit
   clear A0
   generalize wd1.alloc (.cells #[] 3) = wa5 at *
   obtain ⟨g0, hg0⟩ : ∃ x, x = wd1.heap.size := ⟨_, rfl⟩
   rw [← hg0] at hF A1
   clear hg0
   obtain ⟨la6, lc6, wa6, hAPP, hA2⟩ := A1.out.app 22 22 (u := .slice la R.length lc) Tryz.underlying22 info_int rfl (by decide) (ints_rcsN (HLd.out.below (HBB.out _ A1.out.below)) hlc) (D' := D) rfl (by rw [hDl]; omega)
   have A2 := Lib.hid hA2
   clear hA2 A1
   rw [hDl] at hAPP A2
   revert hF;refine zrc 1 [1] [2, 3] fun a hF => ?_;refine seq_one ?_;refine op_append rfl rfl rfl rfl rfl hF rfl rfl rfl hAPP (fun a hF => ?_);clear hAPP;revert hF;refine zre 3 [2] [1, 2, 3, 4, 9, 11, 12] fun a hF => ?_;refine hK _ _ ?_;clear hK
   have HB6 := Lib.hid (HBd.out.trans ((HBB.out _ A2.out.below).mono HBd.out.size))
   have hown := A2.out.own _ _ rfl
   rw [hDl] at hown
   have hown' := hown
   rw [← hDl] at hown'
   obtain ⟨la7, lc7, e7, hrc⟩ := OwnRecs.of_row hown'
   cases e7
   obtain ⟨g7, rfl, hg7, hrr⟩ := hrc.2 (by omega)
   have HIR := Lib.hid (introw_of hrr)
   have HG7 : Hid (w1.heap.size ≤ g7) := Nat.le_trans HBL.out hg7
   clear hown hown' hrc hrr hg7 A2 HBB HBL HLd
   have hbd := below_d (Below.refl wa6.heap.size wa6)
   have HBe := Lib.hid (HB6.out.trans (hbd.mono HB6.out.size))
   have HIRd : Hid (IntRow wa6.drew g7 3 D) := HIR.out
   have r0 := HIRd.out.cell i (by omega)
   rw [← HDX.out] at r0
   have f0 := HIRd.out.free i
   obtain ⟨bg, og, hga, e0, _⟩ := (HP.out.below HBe.out).groups.2 g hgG
   have p1 := boxed_cell (j := 1) (HP.out.below HBe.out).box rfl
   rw [hga] at p1
   rw [← HSE.out] at e0
   have hx4 : x ≤ 100000 := by
    have h5 := HIRd.out
    have := (runsOk_sum R 4000 (by omega) (validS_parts HV.out).1)
    exact HXB.out i hlt x (by rw [HNX.out, getD_map])
   have hws : IntKind.i64.wrap (x - s) = x - s := wrap_in (by omega) (by omega)
   have HBf : Hid (Below w1.heap.size w1 (wa6.drew.setCell ⟨g7, i, none⟩ (.int .i64 (x - s)))) := HBe.out.setCell (by show _ ≤ g7; exact HG7.out) _
   have HIRf := Lib.hid (HIRd.out.set i (by omega) (x - s))
   clear hbd HB6 HBe HIR HIRd hga HBd
   refine wp_seq_k (fun K hK => ?_);refine region_any (by kernel_rfl) ?_;generalize wa6.drew = wd6 at *;revert hF;refine zra (fuel := 1) [1, 33, 74, 116, 137, 180, 193, 234, 265, 308, 330, 362] [12] fun a hF => ?_;refine any_one (n := 12) (fuel := 0) (by kernel_rfl) ?_;revert hF;refine qu2 fun a hF => ?_
   clear r0 f0 e0 p1 hws
   refine any_end (by kernel_rfl) ?_;replace hF := hF.kp [1, 2, 3, 4, 9, 11, 12] rfl;refine hK _ _ ?_;clear hK
   generalize wd6.setCell ⟨g7, i, none⟩ (.int .i64 (x - s)) = w7 at *
   have HL7 : Hid (Ints w7 (some ⟨g7, 0, none⟩) R.length (L'.map (·.1))) := by
    have := HIRf.out.ints
    rw [List.length_set, hDl, ← HMP.out] at this
    exact this
   clear HIRf HMP HDX
   have HBf0 := HBf
   refine seq_cut (fun a' w' => ∃ oa oc, FrF 92 [] [(1, .slice ca g cc), (2, .slice la R.length lc), (3, .int .i64 val), (4, .pointer (some ⟨gp, 0, none⟩)), (9, .int .i64 g), (11, .int .i64 i), (13, .slice oa (outL (C ++ [(i : Int)]) (srchF single G k (g + 1) L' (val - valS G (dec (ix C) g) - s * gv G g))).length oc)] a' ∧ Hid (Below w7.heap.size w7 w') ∧ Hid (Ints w' oa (outL (C ++ [(i : Int)]) (srchF single G k (g + 1) L' (val - valS G (dec (ix C) g) - s * gv G g))).length (outL (C ++ [(i : Int)]) (srchF single G k (g + 1) L' (val - valS G (dec (ix C) g) - s * gv G g))))) (fun KD hKD => ?_) ?_
   ·
    have hbd := below_d (Below.refl w7.heap.size w7)
    have HBd7 := Lib.hid (HBf.out.trans (hbd.mono HBf.out.size))
    have HPd := Lib.hid (HP.out.below HBd7.out)
    have HCd := Lib.hid (HC.out.below HBd7.out)
    have HL7d := Lib.hid (HL7.out.below hbd)
    have HBDR : Hid (Below w7.heap.size w7 w7.drew) := hbd
    clear hbd HBd7 HBf HBf0 HL7
    have HST : Hid (∀ w', Below w7.drew.heap.size w7.drew w' → True ∧ w'.cell? ⟨gp, 0, none⟩ = some (.slice ra R.length c) ∧ w'.cell? ⟨gp, 1, none⟩ = some (.slice ga G.length d) ∧ w'.cell? ⟨gp, 2, none⟩ = some (.bool single)) := fun w' hb => ⟨trivial, Below.cell_of hb (boxed_cell (j := 0) HPd.out.box rfl), Below.cell_of hb (boxed_cell (j := 1) HPd.out.box rfl), Below.cell_of hb (boxed_cell (j := 2) HPd.out.box rfl)⟩
    obtain ⟨B0, hB0⟩ : ∃ x, x = w7.drew.heap.size := ⟨_, rfl⟩
    have HBB : Hid (∀ x, Below B0 w7.drew x → Below w7.drew.heap.size w7.drew x) := fun x h => by rw [← hB0]; exact h
    have HAS := Lib.hid (AS.start (E := IntE) (T := 3) (a := (i : Int)) B0 w7.drew (by rw [hB0]; exact Nat.le_refl _))
    clear hB0
    refine region_any (by kernel_rfl) ?_;generalize w7.drew = wd at *;revert hF;refine zhc (fuel := 6) (fun w' => True ∧ w'.cell? ⟨gp, 0, none⟩ = some (.slice ra R.length c) ∧ w'.cell? ⟨gp, 1, none⟩ = some (.slice ga G.length d) ∧ w'.cell? ⟨gp, 2, none⟩ = some (.bool single)) (HST.out _ (Below.refl _ _)) [3, 33, 65, 113, 129] fun a hF => ?_;refine held_two (n := 1) (m := 5) (fuel := 5) (by kernel_rfl) ?_ ?_
    ·
     have HN := Lib.hid HAS.out.lit
     clear HAS
     revert hF;refine qe0 fun a hF => ⟨?_, ?_⟩
     ·
      intro _
      exact HST.out _ (HBB.out _ HN.out.below)
     generalize wd.alloc (.cells #[] 3) = x1 at *
     obtain ⟨g0, hg0⟩ : ∃ g, g = wd.heap.size := ⟨_, rfl⟩
     rw [← hg0] at hF HN
     have HAS := HN
     clear hg0 HN
     refine held_two (n := 3) (m := 5) (fuel := 4) (by kernel_rfl) ?_ ?_
     ·
      obtain ⟨la3, lc3, x2, hAPP, has⟩ := HAS.out.app 22 22 (u := .slice ca g cc) Tryz.underlying22 info_int rfl (by decide) (ints_rcsN (HCd.out.below (HBB.out _ HAS.out.below)) hcc) (D' := C) rfl (by rw [HCL.out]; omega)
      have HN := Lib.hid has
      clear HAS has
      rw [HCL.out] at hAPP
      refine op_append rfl rfl rfl rfl rfl hF rfl rfl rfl hAPP (fun a hF => ⟨?_, ?_⟩)
      ·
       intro _
       exact HST.out _ (HBB.out _ HN.out.below)
      have HAS := HN
      clear hAPP HN
      have HN := Lib.hid (HAS.out.one (arr := #[.int .i64 (i : Int)]) rfl)
      clear HAS
      refine held_one (n := 5) (fuel := 3) (by kernel_rfl) ?_;revert hF;refine qe1 fun a hF => ⟨?_, ?_⟩
      ·
       intro _
       exact HST.out _ (HBB.out _ HN.out.below)
      generalize x2.alloc (.cells #[.int .i64 (i : Int)] 3) = x3 at *
      obtain ⟨g5, hg5⟩ : ∃ g, g = x2.heap.size := ⟨_, rfl⟩
      rw [← hg5] at hF HN
      have HAS := HN
      clear hg5 HN
      rw [HCL.out] at HAS
      obtain ⟨dm, dk, x4, hAPP, has⟩ := HAS.out.app 22 22 Tryz.underlying22 info_int rfl (by decide) HAS.out.rcs (D' := C ++ [(i : Int)]) rfl (by simp only [List.length_append, List.length_singleton, HCL.out]; omega)
      have HN := Lib.hid has
      clear HAS has
      rw [List.length_append, HCL.out, List.length_singleton] at hAPP
      refine held_one (n := 6) (fuel := 2) (by kernel_rfl) ?_;refine op_append rfl rfl rfl rfl rfl hF rfl rfl rfl hAPP (fun a hF => ⟨?_, ?_⟩)
      ·
       intro _
       exact HST.out _ (HBB.out _ HN.out.below)
      have HAS := HN
      clear hAPP HN
      revert hF;refine zhg (fuel := 2) (HST.out _ (HBB.out _ HAS.out.below)) [] fun a hF => ?_;refine held_one (n := 9) (fuel := 1) (by kernel_rfl) ?_;revert hF;refine zoc fun K hK => ?_
      refine (HIH.out (g + 1) (C ++ [(i : Int)]) L' x4 dm (some ⟨g7, 0, none⟩) dk lc6 (by omega) (by rw [List.length_append, HCL.out]; rfl) HAT'.out HNN'.out (HPd.out.runs.below (HBB.out _ HAS.out.below)) (HPd.out.groups.below (HBB.out _ HAS.out.below)) (by have := recs_ints HAS.out.recs; rw [List.length_append, HCL.out] at this; exact this) (HL7d.out.below (HBB.out _ HAS.out.below)) (fun e => ?_) (fun e => by cases e)).mono ?_
      ·
       subst e
       have h9 := own_cap (HAS.out.own _ _ rfl)
       rcases (HAS.out.own _ _ rfl).2 with ⟨_, h0⟩ | ⟨_, _, _, e, _⟩
       ·
        simp at h0
       ·
        cases e
      rw [HVE.out]
      rintro e w9 ⟨oa, oc, rfl, hb9, hi9⟩
      refine hK _ _ (fun a hF => ⟨?_, ?_⟩)
      ·
       intro _
       exact HST.out _ ((HBB.out _ HAS.out.below).trans (hb9.mono (HBB.out _ HAS.out.below).size))
      clear hK K
      revert hF;refine zhg (fuel := 0) (HST.out _ ((HBB.out _ HAS.out.below).trans (hb9.mono (HBB.out _ HAS.out.below).size))) [162] fun a hF => ?_;refine held_end (by kernel_rfl) ?_;replace hF := hF.kp [1, 2, 3, 4, 9, 11, 13] rfl
      exact hKD _ _ ⟨oa, oc, hF, HBDR.out.trans (((HBB.out _ HAS.out.below).trans (hb9.mono (HBB.out _ HAS.out.below).size)).mono HBDR.out.size), hi9⟩
     ·
      have HN := Lib.hid (HAS.out.one (arr := #[.int .i64 (i : Int)]) rfl)
      clear HAS
      revert hF;refine qe1 fun a hF => ⟨?_, ?_⟩
      ·
       intro _
       exact HST.out _ (HBB.out _ HN.out.below)
      generalize x1.alloc (.cells #[.int .i64 (i : Int)] 3) = x2 at *
      obtain ⟨g5, hg5⟩ : ∃ g, g = x1.heap.size := ⟨_, rfl⟩
      rw [← hg5] at hF HN
      have HAS := HN
      clear hg5 HN
      obtain ⟨la3, lc3, x3, hAPP, has⟩ := HAS.out.app 22 22 (u := .slice ca g cc) Tryz.underlying22 info_int rfl (by decide) (ints_rcsN (HCd.out.below (HBB.out _ HAS.out.below)) hcc) (D' := C) rfl (by rw [HCL.out]; omega)
      have HN := Lib.hid has
      clear HAS has
      rw [HCL.out] at hAPP
      refine held_one (n := 3) (fuel := 3) (by kernel_rfl) ?_;refine op_append rfl rfl rfl rfl rfl hF rfl rfl rfl hAPP (fun a hF => ⟨?_, ?_⟩)
      ·
       intro _
       exact HST.out _ (HBB.out _ HN.out.below)
      have HAS := HN
      clear hAPP HN
      rw [HCL.out] at HAS
      obtain ⟨dm, dk, x4, hAPP, has⟩ := HAS.out.app 22 22 Tryz.underlying22 info_int rfl (by decide) HAS.out.rcs (D' := C ++ [(i : Int)]) rfl (by simp only [List.length_append, List.length_singleton, HCL.out]; omega)
      have HN := Lib.hid has
      clear HAS has
      rw [List.length_append, HCL.out, List.length_singleton] at hAPP
      refine held_one (n := 6) (fuel := 2) (by kernel_rfl) ?_;refine op_append rfl rfl rfl rfl rfl hF rfl rfl rfl hAPP (fun a hF => ⟨?_, ?_⟩)
      ·
       intro _
       exact HST.out _ (HBB.out _ HN.out.below)
      have HAS := HN
      clear hAPP HN
      revert hF;refine zhg (fuel := 2) (HST.out _ (HBB.out _ HAS.out.below)) [] fun a hF => ?_;refine held_one (n := 9) (fuel := 1) (by kernel_rfl) ?_;revert hF;refine zoc fun K hK => ?_
      refine (HIH.out (g + 1) (C ++ [(i : Int)]) L' x4 dm (some ⟨g7, 0, none⟩) dk lc6 (by omega) (by rw [List.length_append, HCL.out]; rfl) HAT'.out HNN'.out (HPd.out.runs.below (HBB.out _ HAS.out.below)) (HPd.out.groups.below (HBB.out _ HAS.out.below)) (by have := recs_ints HAS.out.recs; rw [List.length_append, HCL.out] at this; exact this) (HL7d.out.below (HBB.out _ HAS.out.below)) (fun e => ?_) (fun e => by cases e)).mono ?_
      ·
       subst e
       have h9 := own_cap (HAS.out.own _ _ rfl)
       rcases (HAS.out.own _ _ rfl).2 with ⟨_, h0⟩ | ⟨_, _, _, e, _⟩
       ·
        simp at h0
       ·
        cases e
      rw [HVE.out]
      rintro e w9 ⟨oa, oc, rfl, hb9, hi9⟩
      refine hK _ _ (fun a hF => ⟨?_, ?_⟩)
      ·
       intro _
       exact HST.out _ ((HBB.out _ HAS.out.below).trans (hb9.mono (HBB.out _ HAS.out.below).size))
      clear hK K
      revert hF;refine zhg (fuel := 0) (HST.out _ ((HBB.out _ HAS.out.below).trans (hb9.mono (HBB.out _ HAS.out.below).size))) [162] fun a hF => ?_;refine held_end (by kernel_rfl) ?_;replace hF := hF.kp [1, 2, 3, 4, 9, 11, 13] rfl
      exact hKD _ _ ⟨oa, oc, hF, HBDR.out.trans (((HBB.out _ HAS.out.below).trans (hb9.mono (HBB.out _ HAS.out.below).size)).mono HBDR.out.size), hi9⟩
    ·
     have HN := Lib.hid (HAS.out.one (arr := #[.int .i64 (i : Int)]) rfl)
     clear HAS
     revert hF;refine qe1 fun a hF => ⟨?_, ?_⟩
     ·
      intro _
      exact HST.out _ (HBB.out _ HN.out.below)
     generalize wd.alloc (.cells #[.int .i64 (i : Int)] 3) = x1 at *
     obtain ⟨g5, hg5⟩ : ∃ g, g = wd.heap.size := ⟨_, rfl⟩
     rw [← hg5] at hF HN
     have HAS := HN
     clear hg5 HN
     have HN := Lib.hid HAS.out.lit
     clear HAS
     refine held_one (n := 1) (fuel := 4) (by kernel_rfl) ?_;revert hF;refine qe0 fun a hF => ⟨?_, ?_⟩
     ·
      intro _
      exact HST.out _ (HBB.out _ HN.out.below)
     generalize x1.alloc (.cells #[] 3) = x2 at *
     obtain ⟨g0, hg0⟩ : ∃ g, g = x1.heap.size := ⟨_, rfl⟩
     rw [← hg0] at hF HN
     have HAS := HN
     clear hg0 HN
     obtain ⟨la3, lc3, x3, hAPP, has⟩ := HAS.out.app 22 22 (u := .slice ca g cc) Tryz.underlying22 info_int rfl (by decide) (ints_rcsN (HCd.out.below (HBB.out _ HAS.out.below)) hcc) (D' := C) rfl (by rw [HCL.out]; omega)
     have HN := Lib.hid has
     clear HAS has
     rw [HCL.out] at hAPP
     refine held_one (n := 3) (fuel := 3) (by kernel_rfl) ?_;refine op_append rfl rfl rfl rfl rfl hF rfl rfl rfl hAPP (fun a hF => ⟨?_, ?_⟩)
     ·
      intro _
      exact HST.out _ (HBB.out _ HN.out.below)
     have HAS := HN
     clear hAPP HN
     rw [HCL.out] at HAS
     obtain ⟨dm, dk, x4, hAPP, has⟩ := HAS.out.app 22 22 Tryz.underlying22 info_int rfl (by decide) HAS.out.rcs (D' := C ++ [(i : Int)]) rfl (by simp only [List.length_append, List.length_singleton, HCL.out]; omega)
     have HN := Lib.hid has
     clear HAS has
     rw [List.length_append, HCL.out, List.length_singleton] at hAPP
     refine held_one (n := 6) (fuel := 2) (by kernel_rfl) ?_;refine op_append rfl rfl rfl rfl rfl hF rfl rfl rfl hAPP (fun a hF => ⟨?_, ?_⟩)
     ·
      intro _
      exact HST.out _ (HBB.out _ HN.out.below)
     have HAS := HN
     clear hAPP HN
     revert hF;refine zhg (fuel := 2) (HST.out _ (HBB.out _ HAS.out.below)) [] fun a hF => ?_;refine held_one (n := 9) (fuel := 1) (by kernel_rfl) ?_;revert hF;refine zoc fun K hK => ?_
     refine (HIH.out (g + 1) (C ++ [(i : Int)]) L' x4 dm (some ⟨g7, 0, none⟩) dk lc6 (by omega) (by rw [List.length_append, HCL.out]; rfl) HAT'.out HNN'.out (HPd.out.runs.below (HBB.out _ HAS.out.below)) (HPd.out.groups.below (HBB.out _ HAS.out.below)) (by have := recs_ints HAS.out.recs; rw [List.length_append, HCL.out] at this; exact this) (HL7d.out.below (HBB.out _ HAS.out.below)) (fun e => ?_) (fun e => by cases e)).mono ?_
     ·
      subst e
      have h9 := own_cap (HAS.out.own _ _ rfl)
      rcases (HAS.out.own _ _ rfl).2 with ⟨_, h0⟩ | ⟨_, _, _, e, _⟩
      ·
       simp at h0
      ·
       cases e
     rw [HVE.out]
     rintro e w9 ⟨oa, oc, rfl, hb9, hi9⟩
     refine hK _ _ (fun a hF => ⟨?_, ?_⟩)
     ·
      intro _
      exact HST.out _ ((HBB.out _ HAS.out.below).trans (hb9.mono (HBB.out _ HAS.out.below).size))
     clear hK K
     revert hF;refine zhg (fuel := 0) (HST.out _ ((HBB.out _ HAS.out.below).trans (hb9.mono (HBB.out _ HAS.out.below).size))) [162] fun a hF => ?_;refine held_end (by kernel_rfl) ?_;replace hF := hF.kp [1, 2, 3, 4, 9, 11, 13] rfl
     exact hKD _ _ ⟨oa, oc, hF, HBDR.out.trans (((HBB.out _ HAS.out.below).trans (hb9.mono (HBB.out _ HAS.out.below).size)).mono HBDR.out.size), hi9⟩
   clear hF HBf HL7 HAT' HNN' HVE
   rintro a w10 ⟨oa, oc, hF, HB9, HI9⟩
   have HBA := Lib.hid (HBf0.out.trans (HB9.out.mono HBf0.out.size))
   clear HB9 HBf0
   cases hres : srchF single G k (g + 1) L' (val - valS G (dec (ix C) g) - s * gv G g) with
   | some cs =>
    rw [hres] at hF HI9
    have hout := HSS.out cs hres
    have hol : outL (C ++ [(i : Int)]) (some cs) = outL C (some ((i : Int) :: cs)) := outL_snoc C (i : Int) (some cs)
    rw [hol] at hF HI9
    rw [hout]
    have hlen : 0 < (outL C (some ((i : Int) :: cs))).length := by unfold outL; simp; omega
    unfold SrchP
    generalize outL C (some ((i : Int) :: cs)) = OO at *
    have hq : (0 : Int) < (OO.length : Nat) := by omega
    have hq' : decide ((0 : Int) < (OO.length : Int)) = true := decide_eq_true hq
    clear hres hout hol
    revert hF;refine zrs [1, 4, 4] [1, 2, 3, 4, 9, 11, 13, 81] fun a hF => ?_
    clear hq hq'
    refine cond_yes hF rfl ?_
    revert hF;refine zrs [1, 2] [8] fun a hF => ?_;refine wp_ret ?_;(try simp only [then_ret, block_ret, goto_ret]);revert hF;refine zq ?_
    exact ⟨oa, oc, rfl, HB.out.trans (HBA.out.mono HB.out.size), HI9.out⟩
   | none =>
    rw [hres] at hF
    have hout := HSN.out hres
    clear hres HI9
    have hnl : (outL (C ++ [(i : Int)]) none).length = 0 := rfl
    rw [hnl] at hF
    clear hnl
    revert hF;refine zrs [1, 4, 4] [1, 2, 3, 4, 9, 11, 13, 81] fun a hF => ?_
    refine cond_no hF rfl ?_
    refine wp_skip ?_
    exact hKCi _ _ ⟨hF.sub ⟨rfl, rfl, rfl, rfl, rfl, rfl, trivial⟩, HBA, hout⟩
  clear hF HS0  HSR0
  rintro a w20 ⟨hF, HS, HSR⟩
  rw [Nat.sub_self, srchL_end] at HSR
  have hat' := at_out_snoc (G := G) (R := R) (C := C) (L := L) (by rw [HCL.out]; exact HAT.out)
  rw [HCL.out] at hat'
  have hve := val_out_snoc (G := G) (C := C)
  rw [HCL.out] at hve
  have HVE : Hid (val - valS G (dec (ix (C ++ [-1])) (g + 1)) = val - valS G (dec (ix C) g)) := by
   show _ = _
   rw [hve]
  have HAT' := Lib.hid hat'
  have HEND : Hid (outL C ((srchF single G k (g + 1) L (val - valS G (dec (ix C) g))).map fun c => -1 :: c) = outL (C ++ [-1]) (srchF single G k (g + 1) L (val - valS G (dec (ix C) g)))) := (outL_snoc C (-1) _).symm
  clear hat' hve HXB
  have hbd := below_d (Below.refl w20.heap.size w20)
  have HBz := Lib.hid (HS.out.trans (hbd.mono HS.out.size))
  have HPd := Lib.hid (HP.out.below HBz.out)
  have HCd := Lib.hid (HC.out.below HBz.out)
  have HLd := Lib.hid (HL.out.below HBz.out)
  clear hbd HS
  refine wp_seq_k (fun K hK => ?_)
  have HST : Hid (∀ w', Below w20.drew.heap.size w20.drew w' → True ∧ w'.cell? ⟨gp, 0, none⟩ = some (.slice ra R.length c) ∧ w'.cell? ⟨gp, 1, none⟩ = some (.slice ga G.length d) ∧ w'.cell? ⟨gp, 2, none⟩ = some (.bool single)) := fun w' hb => ⟨trivial, Below.cell_of hb (boxed_cell (j := 0) HPd.out.box rfl), Below.cell_of hb (boxed_cell (j := 1) HPd.out.box rfl), Below.cell_of hb (boxed_cell (j := 2) HPd.out.box rfl)⟩
  obtain ⟨B0, hB0⟩ : ∃ x, x = w20.drew.heap.size := ⟨_, rfl⟩
  have HBB : Hid (∀ x, Below B0 w20.drew x → Below w20.drew.heap.size w20.drew x) := fun x h => by rw [← hB0]; exact h
  have HAS := Lib.hid (AS.start (E := IntE) (T := 3) (a := (-1)) B0 w20.drew (by rw [hB0]; exact Nat.le_refl _))
  clear hB0
  refine region_any (by kernel_rfl) ?_;generalize w20.drew = wd at *;revert hF;refine zhc (fuel := 6) (fun w' => True ∧ w'.cell? ⟨gp, 0, none⟩ = some (.slice ra R.length c) ∧ w'.cell? ⟨gp, 1, none⟩ = some (.slice ga G.length d) ∧ w'.cell? ⟨gp, 2, none⟩ = some (.bool single)) (HST.out _ (Below.refl _ _)) [3, 33, 97, 113] fun a hF => ?_;refine held_two (n := 1) (m := 4) (fuel := 5) (by kernel_rfl) ?_ ?_
  ·
   have HN := Lib.hid HAS.out.lit
   clear HAS
   revert hF;refine qe0 fun a hF => ⟨?_, ?_⟩
   ·
    intro _
    exact HST.out _ (HBB.out _ HN.out.below)
   generalize wd.alloc (.cells #[] 3) = x1 at *
   obtain ⟨g0, hg0⟩ : ∃ g, g = wd.heap.size := ⟨_, rfl⟩
   rw [← hg0] at hF HN
   have HAS := HN
   clear hg0 HN
   refine held_two (n := 3) (m := 4) (fuel := 4) (by kernel_rfl) ?_ ?_
   ·
    obtain ⟨la3, lc3, x2, hAPP, has⟩ := HAS.out.app 22 22 (u := .slice ca g cc) Tryz.underlying22 info_int rfl (by decide) (ints_rcsN (HCd.out.below (HBB.out _ HAS.out.below)) hcc) (D' := C) rfl (by rw [HCL.out]; omega)
    have HN := Lib.hid has
    clear HAS has
    rw [HCL.out] at hAPP
    refine op_append rfl rfl rfl rfl rfl hF rfl rfl rfl hAPP (fun a hF => ⟨?_, ?_⟩)
    ·
     intro _
     exact HST.out _ (HBB.out _ HN.out.below)
    have HAS := HN
    clear hAPP HN
    have HN := Lib.hid (HAS.out.one (arr := #[.int .i64 (-1)]) rfl)
    clear HAS
    refine held_one (n := 4) (fuel := 3) (by kernel_rfl) ?_;revert hF;refine qe0 fun a hF => ⟨?_, ?_⟩
    ·
     intro _
     exact HST.out _ (HBB.out _ HN.out.below)
    generalize x2.alloc (.cells #[.int .i64 (-1)] 3) = x3 at *
    obtain ⟨g5, hg5⟩ : ∃ g, g = x2.heap.size := ⟨_, rfl⟩
    rw [← hg5] at hF HN
    have HAS := HN
    clear hg5 HN
    rw [HCL.out] at HAS
    obtain ⟨dm, dk, x4, hAPP, has⟩ := HAS.out.app 22 22 Tryz.underlying22 info_int rfl (by decide) HAS.out.rcs (D' := C ++ [(-1)]) rfl (by simp only [List.length_append, List.length_singleton, HCL.out]; omega)
    have HN := Lib.hid has
    clear HAS has
    rw [List.length_append, HCL.out, List.length_singleton] at hAPP
    refine held_one (n := 5) (fuel := 2) (by kernel_rfl) ?_;refine op_append rfl rfl rfl rfl rfl hF rfl rfl rfl hAPP (fun a hF => ⟨?_, ?_⟩)
    ·
     intro _
     exact HST.out _ (HBB.out _ HN.out.below)
    have HAS := HN
    clear hAPP HN
    revert hF;refine zhg (fuel := 2) (HST.out _ (HBB.out _ HAS.out.below)) [] fun a hF => ?_;refine held_one (n := 8) (fuel := 1) (by kernel_rfl) ?_;revert hF;refine zoc fun K hK => ?_
    refine (HIH.out (g + 1) (C ++ [-1]) L x4 dm la dk lc (by omega) (by rw [List.length_append, HCL.out]; rfl) HAT'.out HNN.out (HPd.out.runs.below (HBB.out _ HAS.out.below)) (HPd.out.groups.below (HBB.out _ HAS.out.below)) (by have := recs_ints HAS.out.recs; rw [List.length_append, HCL.out] at this; exact this) (HLd.out.below (HBB.out _ HAS.out.below)) (fun e => ?_) hlc).mono ?_
    ·
     subst e
     rcases (HAS.out.own _ _ rfl).2 with ⟨_, h0⟩ | ⟨_, _, _, e, _⟩
     ·
      simp at h0
     ·
      cases e
    rw [HVE.out]
    rintro e w9 ⟨oa, oc, rfl, hb9, hi9⟩
    refine hK _ _ (fun a hF => ⟨?_, ?_⟩)
    ·
     intro _
     exact HST.out _ ((HBB.out _ HAS.out.below).trans (hb9.mono (HBB.out _ HAS.out.below).size))
    clear hK K
    revert hF;refine zhg (fuel := 0) (HST.out _ ((HBB.out _ HAS.out.below).trans (hb9.mono (HBB.out _ HAS.out.below).size))) [146] fun a hF => ?_;refine held_end (by kernel_rfl) ?_;replace hF := hF.kp [8] rfl;refine hK _ _ ?_;clear hK
    rw [HSR.out]
    refine wp_ret ?_;(try simp only [then_ret, block_ret, goto_ret]);revert hF;refine zq ?_
    unfold SrchP
    rw [HEND.out]
    exact ⟨oa, oc, rfl, HB.out.trans ((HBz.out.trans (((HBB.out _ HAS.out.below).trans (hb9.mono (HBB.out _ HAS.out.below).size)).mono HBz.out.size)).mono HB.out.size), hi9⟩
   ·
    have HN := Lib.hid (HAS.out.one (arr := #[.int .i64 (-1)]) rfl)
    clear HAS
    revert hF;refine qe0 fun a hF => ⟨?_, ?_⟩
    ·
     intro _
     exact HST.out _ (HBB.out _ HN.out.below)
    generalize x1.alloc (.cells #[.int .i64 (-1)] 3) = x2 at *
    obtain ⟨g5, hg5⟩ : ∃ g, g = x1.heap.size := ⟨_, rfl⟩
    rw [← hg5] at hF HN
    have HAS := HN
    clear hg5 HN
    obtain ⟨la3, lc3, x3, hAPP, has⟩ := HAS.out.app 22 22 (u := .slice ca g cc) Tryz.underlying22 info_int rfl (by decide) (ints_rcsN (HCd.out.below (HBB.out _ HAS.out.below)) hcc) (D' := C) rfl (by rw [HCL.out]; omega)
    have HN := Lib.hid has
    clear HAS has
    rw [HCL.out] at hAPP
    refine held_one (n := 3) (fuel := 3) (by kernel_rfl) ?_;refine op_append rfl rfl rfl rfl rfl hF rfl rfl rfl hAPP (fun a hF => ⟨?_, ?_⟩)
    ·
     intro _
     exact HST.out _ (HBB.out _ HN.out.below)
    have HAS := HN
    clear hAPP HN
    rw [HCL.out] at HAS
    obtain ⟨dm, dk, x4, hAPP, has⟩ := HAS.out.app 22 22 Tryz.underlying22 info_int rfl (by decide) HAS.out.rcs (D' := C ++ [(-1)]) rfl (by simp only [List.length_append, List.length_singleton, HCL.out]; omega)
    have HN := Lib.hid has
    clear HAS has
    rw [List.length_append, HCL.out, List.length_singleton] at hAPP
    refine held_one (n := 5) (fuel := 2) (by kernel_rfl) ?_;refine op_append rfl rfl rfl rfl rfl hF rfl rfl rfl hAPP (fun a hF => ⟨?_, ?_⟩)
    ·
     intro _
     exact HST.out _ (HBB.out _ HN.out.below)
    have HAS := HN
    clear hAPP HN
    revert hF;refine zhg (fuel := 2) (HST.out _ (HBB.out _ HAS.out.below)) [] fun a hF => ?_;refine held_one (n := 8) (fuel := 1) (by kernel_rfl) ?_;revert hF;refine zoc fun K hK => ?_
    refine (HIH.out (g + 1) (C ++ [-1]) L x4 dm la dk lc (by omega) (by rw [List.length_append, HCL.out]; rfl) HAT'.out HNN.out (HPd.out.runs.below (HBB.out _ HAS.out.below)) (HPd.out.groups.below (HBB.out _ HAS.out.below)) (by have := recs_ints HAS.out.recs; rw [List.length_append, HCL.out] at this; exact this) (HLd.out.below (HBB.out _ HAS.out.below)) (fun e => ?_) hlc).mono ?_
    ·
     subst e
     rcases (HAS.out.own _ _ rfl).2 with ⟨_, h0⟩ | ⟨_, _, _, e, _⟩
     ·
      simp at h0
     ·
      cases e
    rw [HVE.out]
    rintro e w9 ⟨oa, oc, rfl, hb9, hi9⟩
    refine hK _ _ (fun a hF => ⟨?_, ?_⟩)
    ·
     intro _
     exact HST.out _ ((HBB.out _ HAS.out.below).trans (hb9.mono (HBB.out _ HAS.out.below).size))
    clear hK K
    revert hF;refine zhg (fuel := 0) (HST.out _ ((HBB.out _ HAS.out.below).trans (hb9.mono (HBB.out _ HAS.out.below).size))) [146] fun a hF => ?_;refine held_end (by kernel_rfl) ?_;replace hF := hF.kp [8] rfl;refine hK _ _ ?_;clear hK
    rw [HSR.out]
    refine wp_ret ?_;(try simp only [then_ret, block_ret, goto_ret]);revert hF;refine zq ?_
    unfold SrchP
    rw [HEND.out]
    exact ⟨oa, oc, rfl, HB.out.trans ((HBz.out.trans (((HBB.out _ HAS.out.below).trans (hb9.mono (HBB.out _ HAS.out.below).size)).mono HBz.out.size)).mono HB.out.size), hi9⟩
  ·
   have HN := Lib.hid (HAS.out.one (arr := #[.int .i64 (-1)]) rfl)
   clear HAS
   revert hF;refine qe0 fun a hF => ⟨?_, ?_⟩
   ·
    intro _
    exact HST.out _ (HBB.out _ HN.out.below)
   generalize wd.alloc (.cells #[.int .i64 (-1)] 3) = x1 at *
   obtain ⟨g5, hg5⟩ : ∃ g, g = wd.heap.size := ⟨_, rfl⟩
   rw [← hg5] at hF HN
   have HAS := HN
   clear hg5 HN
   have HN := Lib.hid HAS.out.lit
   clear HAS
   refine held_one (n := 1) (fuel := 4) (by kernel_rfl) ?_;revert hF;refine qe0 fun a hF => ⟨?_, ?_⟩
   ·
    intro _
    exact HST.out _ (HBB.out _ HN.out.below)
   generalize x1.alloc (.cells #[] 3) = x2 at *
   obtain ⟨g0, hg0⟩ : ∃ g, g = x1.heap.size := ⟨_, rfl⟩
   rw [← hg0] at hF HN
   have HAS := HN
   clear hg0 HN
   obtain ⟨la3, lc3, x3, hAPP, has⟩ := HAS.out.app 22 22 (u := .slice ca g cc) Tryz.underlying22 info_int rfl (by decide) (ints_rcsN (HCd.out.below (HBB.out _ HAS.out.below)) hcc) (D' := C) rfl (by rw [HCL.out]; omega)
   have HN := Lib.hid has
   clear HAS has
   rw [HCL.out] at hAPP
   refine held_one (n := 3) (fuel := 3) (by kernel_rfl) ?_;refine op_append rfl rfl rfl rfl rfl hF rfl rfl rfl hAPP (fun a hF => ⟨?_, ?_⟩)
   ·
    intro _
    exact HST.out _ (HBB.out _ HN.out.below)
   have HAS := HN
   clear hAPP HN
   rw [HCL.out] at HAS
   obtain ⟨dm, dk, x4, hAPP, has⟩ := HAS.out.app 22 22 Tryz.underlying22 info_int rfl (by decide) HAS.out.rcs (D' := C ++ [(-1)]) rfl (by simp only [List.length_append, List.length_singleton, HCL.out]; omega)
   have HN := Lib.hid has
   clear HAS has
   rw [List.length_append, HCL.out, List.length_singleton] at hAPP
   refine held_one (n := 5) (fuel := 2) (by kernel_rfl) ?_;refine op_append rfl rfl rfl rfl rfl hF rfl rfl rfl hAPP (fun a hF => ⟨?_, ?_⟩)
   ·
    intro _
    exact HST.out _ (HBB.out _ HN.out.below)
   have HAS := HN
   clear hAPP HN
   revert hF;refine zhg (fuel := 2) (HST.out _ (HBB.out _ HAS.out.below)) [] fun a hF => ?_;refine held_one (n := 8) (fuel := 1) (by kernel_rfl) ?_;revert hF;refine zoc fun K hK => ?_
   refine (HIH.out (g + 1) (C ++ [-1]) L x4 dm la dk lc (by omega) (by rw [List.length_append, HCL.out]; rfl) HAT'.out HNN.out (HPd.out.runs.below (HBB.out _ HAS.out.below)) (HPd.out.groups.below (HBB.out _ HAS.out.below)) (by have := recs_ints HAS.out.recs; rw [List.length_append, HCL.out] at this; exact this) (HLd.out.below (HBB.out _ HAS.out.below)) (fun e => ?_) hlc).mono ?_
   ·
    subst e
    rcases (HAS.out.own _ _ rfl).2 with ⟨_, h0⟩ | ⟨_, _, _, e, _⟩
    ·
     simp at h0
    ·
     cases e
   rw [HVE.out]
   rintro e w9 ⟨oa, oc, rfl, hb9, hi9⟩
   refine hK _ _ (fun a hF => ⟨?_, ?_⟩)
   ·
    intro _
    exact HST.out _ ((HBB.out _ HAS.out.below).trans (hb9.mono (HBB.out _ HAS.out.below).size))
   clear hK K
   revert hF;refine zhg (fuel := 0) (HST.out _ ((HBB.out _ HAS.out.below).trans (hb9.mono (HBB.out _ HAS.out.below).size))) [146] fun a hF => ?_;refine held_end (by kernel_rfl) ?_;replace hF := hF.kp [8] rfl;refine hK _ _ ?_;clear hK
   rw [HSR.out]
   refine wp_ret ?_;(try simp only [then_ret, block_ret, goto_ret]);revert hF;refine zq ?_
   unfold SrchP
   rw [HEND.out]
   exact ⟨oa, oc, rfl, HB.out.trans ((HBz.out.trans (((HBB.out _ HAS.out.below).trans (hb9.mono (HBB.out _ HAS.out.below).size)).mono HBz.out.size)).mono HB.out.size), hi9⟩
end Go.Proofs.YthabgljdndbphaaGreatDoor
