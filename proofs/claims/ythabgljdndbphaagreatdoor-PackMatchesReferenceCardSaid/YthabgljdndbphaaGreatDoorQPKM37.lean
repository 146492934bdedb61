/- foyerlaw23's small functions: Few, small, Same, example. -/
import Derived.Test.YthabgljdndbphaaGreatDoorQPKM09
import Derived.Test.YthabgljdndbphaaGreatDoorQPKM31
import Derived.Test.YthabgljdndbphaaGreatDoorQPKM36
import Derived.Shelf.SlicesE.Kit

set_option linter.unusedVariables false
set_option linter.unusedSimpArgs false
namespace Go.Proofs.YthabgljdndbphaaGreatDoor
open Go.RowKit Go.IntWalk Go.Maps Go.WideMaps
set_option linter.unusedSimpArgs false
set_option linter.unusedVariables false

theorem few_any (ra ga : Option Addr) (n c m d : Nat) (single : Bool) (z : Nat) (w : World) :
  Calls Tryz.prog 9 #[.agg #[.slice ra n c, .slice ga m d, .bool single], .int .i64 z] w fun e w' => e = .returned (.bool (decide (n ≤ z ∧ m ≤ z))) ∧ Below w.heap.size w w' := by
 by_cases h1 : n ≤ z
 ·
  by_cases h3 : m ≤ z
  ·
   have e1 : decide ((n : Int) ≤ z) = true := by simp; omega
   have e2 : decide ((m : Int) ≤ z) = true := by simp; omega
   go_enter Tryz.func9, Tryz.ntmps9
   go_wp2
   go_ret
   exact ⟨ret_bool (by simp [h1, h3]), (Below.refl _ _).alloc (Nat.le_refl _) _⟩
  ·
   have e1 : decide ((n : Int) ≤ z) = true := by simp; omega
   have e2 : decide ((m : Int) ≤ z) = false := by simp; omega
   go_enter Tryz.func9, Tryz.ntmps9
   go_wp2
   go_ret
   exact ⟨ret_bool (by simp [h1, h3]), (Below.refl _ _).alloc (Nat.le_refl _) _⟩
 ·
  have h2 : decide ((n : Int) ≤ z) = false := by simp; omega
  go_enter Tryz.func9, Tryz.ntmps9
  go_wp2
  go_ret
  exact ⟨ret_bool (by simp [h1]), (Below.refl _ _).alloc (Nat.le_refl _) _⟩
set_option maxHeartbeats 4000000 in
theorem equal_spot (a b c d : Int) (w : World) : Sem.run Tryz.prog (Op.equalIn 10000 46 (.agg #[.int .i64 a, .int .i64 b]) (.agg #[.int .i64 c, .int .i64 d])) w = .ok (decide (a = c ∧ b = d)) w := by
 have u3 := Tryz.underlying3
 have a3 := Tryz.isAgg3
 have z3 := Tryz.sizeOf3
 have hS : Tryz.prog.underlying 46 = some (.struct (Tryz.prog.fieldsOf 46)) := by kernel_rfl
 have hp : Tryz.prog.stoodInHeld 46 = false := by kernel_rfl
 rw [show (10000 : Nat) = 9999 + 1 from rfl, run_equalIn_agg w 9999 46 _ _ hS hp]
 simp only [Program.fieldsOf, Tryz.underlying46]
 go_simp
 by_cases h0 : a = c
 rotate_left
 ·
  simp [h0]
 by_cases h1 : b = d
 rotate_left
 ·
  simp [h0, h1]
 simp [h0, h1]
theorem neq_spot (a b c d : Int) (w : World) : Sem.run Tryz.prog (binOp .neq 46 (.agg #[.int .i64 a, .int .i64 b]) (.agg #[.int .i64 c, .int .i64 d])) w = .ok (.bool (!decide (a = c ∧ b = d))) w := by
 rw [run_neq_struct, equal_spot]
 rfl
theorem guard_spot (op : BinOp) (p q : Operand) (a b c d : Int) (w : World) : Sem.run Tryz.prog (eqGuard op 46 p q (.agg #[.int .i64 a, .int .i64 b]) (.agg #[.int .i64 c, .int .i64 d])) w = .ok () w :=
 run_eqGuard_agg w op 46 p q _ _ (by kernel_rfl)
/-- Equal up to i. -/
def PreEq (S T : List (Int × Int)) (i : Nat) : Prop := ∀ j, j < i → gs S j = gs T j ∧ gv S j = gv T j
theorem pre_all {S T : List (Int × Int)} {m : Nat} (hs : S.length = m) (ht : T.length = m) (h : PreEq S T m) : S = T := by
 refine List.ext_getElem (by omega) fun j h1 h2 => ?_
 have := h j (by omega)
 unfold gs gv at this
 simp [h1, h2] at this
 exact Prod.ext this.1 this.2
set_option maxRecDepth 100000 in
set_option maxHeartbeats 8000000 in
theorem same_any (w : World) (sa sb : Option Addr) (m sc k sd : Nat) (V0 V1 : Int) (S T : List (Int × Int)) (hS : Pairs w sa m S) (hT : Pairs w sb k T) (hm : m ≤ 100000) (hk : k ≤ 100000) :
  Calls Tryz.prog 13 #[.agg #[.slice sa m sc, .int .i64 V0], .agg #[.slice sb k sd, .int .i64 V1]] w fun e w' => ∃ q, e = .returned (.bool q) ∧ Below w.heap.size w w' ∧ (q = true ↔ V0 = V1 ∧ S = T) := by
 have HS := Lib.hid hS
 have HT := Lib.hid hT
 clear hS hT
 refine enter_fr (N := 38) [.agg #[.slice sa m sc, .int .i64 V0], .agg #[.slice sb k sd, .int .i64 V1]] (Tryz.func13) rfl Tryz.ntmps13 (by rfl) (fun a hF => ?_);replace hF := hF.kp [0, 1] rfl;refine wp_seq_k (fun K hK => ?_);refine region_seq (l := [0, 1, 2]) (by kernel_rfl) ?_;refine seq_one ?_;revert hF;refine qe1 fun a hF => ?_
 have ha := heap_new w (.cells #[.slice sa m sc, .int .i64 V0] 31)
 have hb1 := Joins.below_alloc1 w (.cells #[.slice sa m sc, .int .i64 V0] 31)
 generalize w.alloc (.cells #[.slice sa m sc, .int .i64 V0] 31) = w1 at *
 obtain ⟨ga, hga⟩ : ∃ x, x = w.heap.size := ⟨_, rfl⟩
 rw [← hga] at hF ha
 refine seq_one ?_;revert hF;refine qe1 fun a hF => ?_
 have hb := heap_new w1 (.cells #[.slice sb k sd, .int .i64 V1] 31)
 have hb2 := Joins.below_alloc1 w1 (.cells #[.slice sb k sd, .int .i64 V1] 31)
 have ha2 := (hb2.block _ (lt_of_block ha)).trans ha
 have HB : Hid (Below w.heap.size w (w1.alloc (.cells #[.slice sb k sd, .int .i64 V1] 31)) ∧ (w1.alloc (.cells #[.slice sb k sd, .int .i64 V1] 31)).heap[ga]? = some (.cells #[.slice sa m sc, .int .i64 V0] 31 (0, 0)) ∧ (w1.alloc (.cells #[.slice sb k sd, .int .i64 V1] 31)).heap[w1.heap.size]? = some (.cells #[.slice sb k sd, .int .i64 V1] 31 (0, 0))) := ⟨hb1.trans (hb2.mono hb1.size), ha2, hb⟩
 clear ha hb1 hb hb2 ha2 hga
 generalize w1.alloc (.cells #[.slice sb k sd, .int .i64 V1] 31) = w2 at *
 generalize w1.heap.size = gb at *
 revert hF;refine zre 2 [2] [2, 3] fun a hF => ?_;refine hK _ _ ?_;clear hK
 have x0 := boxed_cell (j := 0) (HB.out.2.1) rfl
 have y0 := boxed_cell (j := 0) (HB.out.2.2) rfl
 have x1 := boxed_cell (j := 1) (HB.out.2.1) rfl
 have y1 := boxed_cell (j := 1) (HB.out.2.2) rfl
 refine wp_seq_k (fun K hK => ?_)
 by_cases hV : V0 = V1
 rotate_left
 ·
  have hq : (V0 != V1) = true := by simp [hV]
  have HV := Lib.hid hV
  clear hV
  revert hF;refine zrs [4, 4, 4, 4, 5, 1, 0, 0, 0, 0, 0, 0, 0, 5] [2, 3, 19] fun a hF => ?_
  clear hq x0 x1 y0 y1
  refine cond_yes hF rfl ?_
  revert hF;refine zrs [2] [4] fun a hF => ?_;refine wp_ret ?_;(try simp only [then_ret, block_ret, goto_ret]);revert hF;refine zq ?_
  exact ⟨false, rfl, HB.out.1, by simp; intro h; exact absurd h HV.out⟩
 subst hV
 have hq : (V0 != V0) = false := by simp
 by_cases hmk : m = k
 rotate_left
 ·
  have hq2 : ((m : Int) != (k : Int)) = true := by simp; omega
  have HV : Hid (S ≠ T) := fun e => hmk (by rw [← HS.out.1, ← HT.out.1, e])
  clear hmk
  revert hF;refine zrs [4, 4, 4, 4, 5, 1, 4, 4, 4, 4, 4, 4, 5, 5] [2, 3, 19] fun a hF => ?_
  clear hq hq2 x0 x1 y0 y1
  refine cond_yes hF rfl ?_
  revert hF;refine zrs [2] [4] fun a hF => ?_;refine wp_ret ?_;(try simp only [then_ret, block_ret, goto_ret]);revert hF;refine zq ?_
  exact ⟨false, rfl, HB.out.1, by simp; exact HV.out⟩
 subst hmk
 have hq2 : ((m : Int) != (m : Int)) = false := by simp
 revert hF;refine zrs [4, 4, 4, 4, 5, 1, 4, 4, 4, 4, 4, 4, 5, 5] [2, 3, 19] fun a hF => ?_
 clear hq hq2 x0 x1 y0 y1
 refine cond_no hF rfl ?_
 refine wp_skip ?_
 refine hK _ _ ?_;clear hK
 have HP : Hid (PreEq S T 0) := fun j hj => absurd hj (Nat.not_lt_zero _)
 refine seq_cut (fun a' w' => FrF 38 [] [(2, .pointer (some ⟨ga, 0, none⟩)), (3, .pointer (some ⟨gb, 0, none⟩))] a' ∧ Hid (Below w.heap.size w w' ∧ w'.heap[ga]? = some (.cells #[.slice sa m sc, .int .i64 V0] 31 (0, 0)) ∧ w'.heap[gb]? = some (.cells #[.slice sb m sd, .int .i64 V0] 31 (0, 0))) ∧ Hid (PreEq S T m)) (fun KAl hKAl => ?_) ?_
 ·
  skip
  revert hF;refine zrs [2] [2, 3, 5] fun a hF => ?_
  refine wp_block ?_
  refine loop_fr (fun ql a' w' => ∃ i : Nat, i + ql = m ∧ FrF 38 [] [(2, .pointer (some ⟨ga, 0, none⟩)), (3, .pointer (some ⟨gb, 0, none⟩)), (5, .int .i64 i)] a' ∧ Hid (Below w.heap.size w w' ∧ w'.heap[ga]? = some (.cells #[.slice sa m sc, .int .i64 V0] 31 (0, 0)) ∧ w'.heap[gb]? = some (.cells #[.slice sb m sd, .int .i64 V0] 31 (0, 0))) ∧ Hid (PreEq S T i)) (m) ⟨0, by omega, hF, HB, HP⟩ ?_
  clear hF HB HP
  rintro rkl a wr ⟨i, hikl, hF, HB, HP⟩ KBl hKBl
  refine wp_seq_k (fun K hK => ?_)
  by_cases hlt : i < m
  rotate_left
  ·
   have hlti : ¬ (i : Int) < (m : Nat) := by omega
   have x0 := boxed_cell (j := 0) (HB.out.2.1) rfl
   have y0 := boxed_cell (j := 0) (HB.out.2.2) rfl
   revert hF;refine zrs [1, 4, 4, 4, 5] [2, 3, 5, 24] fun a hF => ?_
   clear x0 y0
   refine cond_no hF rfl ?_
   refine wp_exit ?_
   have hie : i = m := by omega
   rw [hie] at HP
   exact hKAl _ _ ⟨hF.sub ⟨rfl, rfl, trivial⟩, HB, HP⟩
  have hlti : (i : Int) < (m : Nat) := by omega
  have x0 := boxed_cell (j := 0) (HB.out.2.1) rfl
  have y0 := boxed_cell (j := 0) (HB.out.2.2) rfl
  revert hF;refine zrs [1, 4, 4, 4, 5] [2, 3, 5, 24] fun a hF => ?_
  clear x0 y0
  refine cond_yes hF rfl ?_
  refine wp_skip ?_
  refine hK _ _ ?_;clear hK;replace hF := hF.kp [2, 3, 5] rfl
  clear hKAl
  refine seq_cut (fun a' w' => FrF 38 [] [(2, .pointer (some ⟨ga, 0, none⟩)), (3, .pointer (some ⟨gb, 0, none⟩)), (5, .int .i64 i)] a' ∧ Hid (Below w.heap.size w w' ∧ w'.heap[ga]? = some (.cells #[.slice sa m sc, .int .i64 V0] 31 (0, 0)) ∧ w'.heap[gb]? = some (.cells #[.slice sb m sd, .int .i64 V0] 31 (0, 0))) ∧ Hid (PreEq S T (i + 1))) (fun KCl hKCl => ?_) ?_
  rotate_left
  ·
   clear hF HB HP
   rintro a w' ⟨hF, HB, HP⟩
   have hws : IntKind.i64.wrap ((i : Int) + 1) = ((i + 1 : Nat) : Int) := wrap_succ (by omega)
   revert hF;refine zrg [1, 4, 2] [2, 3, 5] fun a hF => ?_
   exact hKBl (m - (i + 1)) _ _ (by omega) ⟨i + 1, by omega, hF, HB, HP⟩
  clear hKBl hikl
  refine wp_block ?_
  refine wp_seq_k (fun K hK => ?_)
  have HBD : Hid (Below w.heap.size w wr.drew ∧ wr.drew.heap[ga]? = some (.cells #[.slice sa m sc, .int .i64 V0] 31 (0, 0)) ∧ wr.drew.heap[gb]? = some (.cells #[.slice sb m sd, .int .i64 V0] 31 (0, 0))) := ⟨below_d HB.out.1, HB.out.2⟩
  have hBd : Below w.heap.size w wr.drew := HBD.out.1
  obtain ⟨b1, o1, hra, c0, c1⟩ := (HS.out.below hBd).2 i hlt
  obtain ⟨b2, o2, hrb, d0, d1⟩ := (HT.out.below hBd).2 i hlt
  clear hBd
  have x0 := boxed_cell (j := 0) (HBD.out.2.1) rfl
  have y0 := boxed_cell (j := 0) (HBD.out.2.2) rfl
  by_cases hxy : gs S i = gs T i ∧ gv S i = gv T i
  ·
   have HPN : Hid (PreEq S T (i + 1)) := fun j hj => by
    by_cases e : j = i
    ·
     subst e; exact hxy
    ·
     exact HP.out j (by omega)
   have heq : ∀ wx, Sem.run Tryz.prog (binOp .neq 46 (.agg #[.int .i64 (gs S i), .int .i64 (gv S i)]) (.agg #[.int .i64 (gs T i), .int .i64 (gv T i)])) wx = .ok (.bool false) wx := fun wx => by
    rw [neq_spot]
    simp [hxy]
   have hgd : ∀ wx op p q, Sem.run Tryz.prog (eqGuard op 46 p q (.agg #[.int .i64 (gs S i), .int .i64 (gv S i)]) (.agg #[.int .i64 (gs T i), .int .i64 (gv T i)])) wx = .ok () wx := fun wx op p q => guard_spot op p q _ _ _ _ wx
   clear hxy
   refine region_any (by kernel_rfl) ?_;revert hF;refine zrb (fuel := 0) [9, 52, 65, 106, 148, 169, 212, 225, 266, 308, 330] [2, 3, 5, 37] fun a hF => ?_
   clear heq hgd c0 c1 d0 d1 x0 y0 hra hrb
   refine hK _ _ ?_;clear hK
   refine cond_no hF rfl ?_
   refine wp_skip ?_
   exact hKCl _ _ ⟨hF.sub ⟨rfl, rfl, rfl, trivial⟩, HBD, HPN⟩
  ·
   have HNE : Hid (S ≠ T) := fun e => hxy (by rw [e]; exact ⟨rfl, rfl⟩)
   have heq : ∀ wx, Sem.run Tryz.prog (binOp .neq 46 (.agg #[.int .i64 (gs S i), .int .i64 (gv S i)]) (.agg #[.int .i64 (gs T i), .int .i64 (gv T i)])) wx = .ok (.bool true) wx := fun wx => by
    rw [neq_spot]
    simp [hxy]
   have hgd : ∀ wx op p q, Sem.run Tryz.prog (eqGuard op 46 p q (.agg #[.int .i64 (gs S i), .int .i64 (gv S i)]) (.agg #[.int .i64 (gs T i), .int .i64 (gv T i)])) wx = .ok () wx := fun wx op p q => guard_spot op p q _ _ _ _ wx
   clear hxy
   refine region_any (by kernel_rfl) ?_;revert hF;refine zrb (fuel := 0) [9, 52, 65, 106, 148, 169, 212, 225, 266, 308, 330] [2, 3, 5, 37] fun a hF => ?_
   clear heq hgd c0 c1 d0 d1 x0 y0 hra hrb
   refine hK _ _ ?_;clear hK
   refine cond_yes hF rfl ?_
   revert hF;refine zrs [2] [4] fun a hF => ?_;refine wp_ret ?_;(try simp only [then_ret, block_ret, goto_ret]);revert hF;refine zq ?_
   exact ⟨false, rfl, HBD.out.1, by simp; exact HNE.out⟩
 clear hF HB HP
 rintro a w3 ⟨hF, HB, HP⟩
 revert hF;refine zrs [2] [4] fun a hF => ?_;refine wp_ret ?_;(try simp only [then_ret, block_ret, goto_ret]);revert hF;refine zq ?_
 exact ⟨true, rfl, HB.out.1, by simp; exact pre_all HS.out.1 HT.out.1 HP.out⟩
theorem ints_block {w : World} {g : Nat} {L : List Int} {T : TypeId} (h : w.heap[g]? = some (.cells (L.map (Value.int .i64)).toArray T (0, 0))) : Ints w (some ⟨g, 0, none⟩) L.length L :=
 ⟨rfl, fun k hk => ⟨g, 0, rfl, by rw [Nat.zero_add]; exact boxed_cell (j := k) h (by simp [ix, hk])⟩⟩
/-- The chapter's groups. -/
def exG : List (Int × Int) := [(3, 2), (3, 1), (2, 1)]
theorem exG_block {w : World} {g : Nat} {T : TypeId} (h : w.heap[g]? = some (.cells #[.int .i64 3, .int .i64 2, .int .i64 3, .int .i64 1, .int .i64 2, .int .i64 1] T (0, 0))) : Pairs w (some ⟨g, 0, none⟩) 3 exG := by
 refine ⟨rfl, fun k hk => ⟨g, 0, rfl, ?_, ?_⟩⟩ <;> rw [Nat.zero_add]
 ·
  rcases (show k = 0 ∨ k = 1 ∨ k = 2 by omega) with rfl | rfl | rfl <;> exact boxed_cell h rfl
 ·
  rcases (show k = 0 ∨ k = 1 ∨ k = 2 by omega) with rfl | rfl | rfl <;> exact boxed_cell h rfl
set_option maxRecDepth 100000 in
set_option maxHeartbeats 8000000 in
theorem example_any (w : World) (single : Bool) :
  Calls Tryz.prog 21 #[.bool single] w fun e w' => ∃ ba bg, e = .returned (.agg #[.slice (some ⟨ba, 0, none⟩) 2 2, .slice (some ⟨bg, 0, none⟩) 3 3, .bool single]) ∧ Below w.heap.size w w' ∧ Ints w' (some ⟨ba, 0, none⟩) 2 [4, 3] ∧ Pairs w' (some ⟨bg, 0, none⟩) 3 exG := by
 refine enter_fr (N := 10) [.bool single] (Tryz.func21) rfl Tryz.ntmps21 (by rfl) (fun a hF => ?_);replace hF := hF.kp [0] rfl;refine wp_seq_k (fun K hK => ?_);refine region_seq (l := [0]) (by kernel_rfl) ?_;refine seq_one ?_;revert hF;refine qe0 fun a hF => ?_
 have h1 := heap_new w (.cells #[.slice none 0 0, .slice none 0 0, .bool false] 25)
 have b1 := Joins.below_alloc1 w (.cells #[.slice none 0 0, .slice none 0 0, .bool false] 25)
 generalize w.alloc (.cells #[.slice none 0 0, .slice none 0 0, .bool false] 25) = w1 at *
 obtain ⟨gp, hgp⟩ : ∃ x, x = w.heap.size := ⟨_, rfl⟩
 rw [← hgp] at hF h1
 have HGP : Hid (w.heap.size ≤ gp) := Nat.le_of_eq hgp.symm
 clear hgp
 refine seq_end ?_;replace hF := hF.kp [0, 2] rfl;refine hK _ _ ?_;clear hK;refine wp_seq_k (fun K hK => ?_);refine region_seq (l := [0, 1, 2, 3, 4, 5, 6, 7]) (by kernel_rfl) ?_;refine seq_one ?_;revert hF;refine qe0 fun a hF => ?_
 have h2 := heap_new w1 (.cells #[.int .i64 4, .int .i64 3] 3)
 have b2 := Joins.below_alloc1 w1 (.cells #[.int .i64 4, .int .i64 3] 3)
 have h12 := (b2.block _ (lt_of_block h1)).trans h1
 have HB2 := Lib.hid (b1.trans (b2.mono b1.size))
 clear h1 b1 b2
 generalize w1.alloc (.cells #[.int .i64 4, .int .i64 3] 3) = w2 at *
 obtain ⟨ba, hba⟩ : ∃ x, x = w1.heap.size := ⟨_, rfl⟩
 rw [← hba] at hF h2
 clear hba
 have HH := Lib.hid (And.intro h12 h2)
 clear h12 h2
 revert hF;refine zrc 1 [3, 3, 3] [4, 5, 6, 7] fun a hF => ?_;refine seq_one ?_;revert hF;refine qe3 fun a hF => ?_
 have h3 := heap_new w2 (.cells #[.int .i64 3, .int .i64 2, .int .i64 3, .int .i64 1, .int .i64 2, .int .i64 1] 49)
 have b3 := Joins.below_alloc1 w2 (.cells #[.int .i64 3, .int .i64 2, .int .i64 3, .int .i64 1, .int .i64 2, .int .i64 1] 49)
 have h13 := (b3.block _ (lt_of_block HH.out.1)).trans HH.out.1
 have h23 := (b3.block _ (lt_of_block HH.out.2)).trans HH.out.2
 have HB3 := Lib.hid (HB2.out.trans (b3.mono HB2.out.size))
 clear b3 HB2 HH
 generalize w2.alloc (.cells #[.int .i64 3, .int .i64 2, .int .i64 3, .int .i64 1, .int .i64 2, .int .i64 1] 49) = w3 at *
 obtain ⟨bg, hbg⟩ : ∃ x, x = w2.heap.size := ⟨_, rfl⟩
 rw [← hbg] at hF h3
 clear hbg
 have hSV := run_storeVar_row (P := Tryz.prog) w3 gp 25 25 #[.slice none 0 0, .slice none 0 0, .bool false] #[.slice (some ⟨ba, 0, none⟩) 2 2, .slice (some ⟨bg, 0, none⟩) 3 3, .bool single] h13 (by kernel_rfl) rfl (by simp [Value.oneCell'])
 have HT := Lib.hid (tupd_row h13 #[.slice (some ⟨ba, 0, none⟩) 2 2, .slice (some ⟨bg, 0, none⟩) 3 3, .bool single])
 have HR := Lib.hid (setRow_heap _ _ _ #[.slice (some ⟨ba, 0, none⟩) 2 2, .slice (some ⟨bg, 0, none⟩) 3 3, .bool single] _ (0, 0) h13)
 have HB4 := Lib.hid (below_setRow HB3.out HGP.out #[.slice (some ⟨ba, 0, none⟩) 2 2, .slice (some ⟨bg, 0, none⟩) 3 3, .bool single])
 have HA4 := Lib.hid (HT.out.keep h23 (by decide))
 have HG4 := Lib.hid (HT.out.keep h3 (by decide))
 clear h13 h23 h3 HT HB3
 revert hF;refine zrc 5 [1, 6] [7] fun a hF => ?_;refine seq_one ?_;refine op_storev rfl rfl hF rfl rfl rfl rfl hSV ?_;clear hF;refine fun a hF => ?_
 clear hSV
 generalize w3.setRow gp #[.slice (some ⟨ba, 0, none⟩) 2 2, .slice (some ⟨bg, 0, none⟩) 3 3, .bool single] = w4 at *
 refine seq_end ?_;replace hF := hF.kp [2] rfl;refine hK _ _ ?_;clear hK
 have hlv : (loadVar 25 ⟨gp, 0, none⟩).run Tryz.prog w4 = .ok (.agg #[.slice (some ⟨ba, 0, none⟩) 2 2, .slice (some ⟨bg, 0, none⟩) 3 3, .bool single]) w4 := by
  have d0 := boxed_cell (j := 0) HR.out rfl
  have d1 := boxed_cell (j := 1) HR.out rfl
  have d2 := boxed_cell (j := 2) HR.out rfl
  clear hF
  go_simp
 refine wp_ret ?_
 try simp only [then_ret, block_ret, goto_ret]
 refine ret_cell (fn := Tryz.f21) rfl hF rfl hlv ?_
 exact ⟨ba, bg, rfl, HB4.out, ints_block (L := [4, 3]) HA4.out, exG_block HG4.out⟩
end Go.Proofs.YthabgljdndbphaaGreatDoor
