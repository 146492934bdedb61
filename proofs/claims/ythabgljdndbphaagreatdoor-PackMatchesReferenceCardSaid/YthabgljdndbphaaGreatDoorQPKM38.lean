/- foyerlaw23.head: the walk. -/
import Derived.Test.YthabgljdndbphaaGreatDoorQPKM13
import Derived.Test.YthabgljdndbphaaGreatDoorQPKM37

set_option linter.unusedVariables false
set_option linter.unusedSimpArgs false
namespace Go.Proofs.YthabgljdndbphaaGreatDoor
open Go.RowKit Go.IntWalk Go.Maps Go.WideMaps
set_option linter.unusedSimpArgs false
set_option linter.unusedVariables false

def insP (x : Int × Int) : List (Int × Int) → List (Int × Int)
 | [] => [x]
 | y :: L => if x.2 ≤ y.2 then x :: y :: L else y :: insP x L

def sortP : List (Int × Int) → List (Int × Int)
 | [] => []
 | x :: L => insP x (sortP L)

theorem insP_perm (x : Int × Int) : ∀ L, (insP x L).Perm (x :: L) := by
 intro L
 induction L with
 | nil => exact List.Perm.refl _
 | cons y L ih =>
  rw [insP]
  split
  ·
   exact List.Perm.refl _
  ·
   exact (ih.cons y).trans (List.Perm.swap x y L)

theorem insP_sorted (x : Int × Int) : ∀ L : List (Int × Int), L.Pairwise (fun a b => a.2 ≤ b.2) → (insP x L).Pairwise (fun a b => a.2 ≤ b.2) := by
 intro L
 induction L with
 | nil => intro _; exact List.pairwise_singleton ..
 | cons y L ih =>
  intro h
  rw [List.pairwise_cons] at h
  rw [insP]
  split
  ·
   rename_i hxy
   refine List.Pairwise.cons (fun z hz => ?_) (List.pairwise_cons.mpr h)
   rcases List.mem_cons.mp hz with rfl | hz
   ·
    exact hxy
   ·
    have := h.1 z hz; omega
  ·
   refine List.Pairwise.cons (fun z hz => ?_) (ih h.2)
   rcases List.mem_cons.mp ((insP_perm x L).mem_iff.mp hz) with rfl | hz
   ·
    omega
   ·
    exact h.1 z hz

theorem sortP_ok : ∀ L, (sortP L).Perm L ∧ (sortP L).Pairwise (fun a b => a.2 ≤ b.2) := by
 intro L
 induction L with
 | nil => exact ⟨List.Perm.refl _, List.Pairwise.nil⟩
 | cons x L ih => exact ⟨(insP_perm x _).trans (ih.1.cons x), insP_sorted x _ ih.2⟩

def legalB (single : Bool) (R : List Int) (G S : List (Int × Int)) (V : Int) : Bool :=
 validS R G && (decide (S.length = G.length) && (match placed R G S S.length with
  | none => false
  | some q => (List.range R.length).all (fun r => rowOk single (ix R r) (sortP (qx q.1 r))) && decide (q.2 = V)))

theorem legalB_iff (single : Bool) (R : List Int) (G S : List (Int × Int)) (V : Int) : LegalP single R G S V ↔ legalB single R G S V = true := by
 unfold LegalP legalB
 cases hv : validS R G
 ·
  simp
 ·
  by_cases hl : S.length = G.length
  ·
   have hvp := (validS_parts hv).2.2
   cases hp : placed R G S S.length with
   | none => simp
   | some q =>
    have hin := placed_in hvp S.length q (by omega) hp
    have hrow : ∀ r, r < R.length → (RowLegal single (ix R r) (qx q.1 r) ↔ rowOk single (ix R r) (sortP (qx q.1 r)) = true) := fun r hr =>
     rowLegal_iff single _ _ _ (fun x hx => (hin r hr x hx).1.1) (sortP_ok _).1 (sortP_ok _).2
    simp only [hl, decide_true, Bool.true_and, true_and, Bool.and_eq_true, List.all_eq_true, List.mem_range, decide_eq_true_eq, Option.some.injEq]
    constructor
    ·
     rintro ⟨q', rfl, h1, h2⟩
     exact ⟨fun r hr => (hrow r hr).mp (h1 r hr), h2⟩
    ·
     rintro ⟨h1, h2⟩
     exact ⟨q, rfl, fun r hr => (hrow r hr).mpr (h1 r hr), h2⟩
  ·
   simp [hl]


theorem check_eq {single : Bool} {R : List Int} {G S : List (Int × Int)} {V : Int} {T : List StepT} {l : Nat} {q b : Bool} (h : q = true ↔ LegalP single R G S V ∧ 0 < l ∧ l ≤ 100000 ∧ checkS single R G V T = true)
  (hb : (legalB single R G S V && (decide (0 < l ∧ l ≤ 100000) && checkS single R G V T)) = b) : q = b := by
 have h2 : q = true ↔ (legalB single R G S V && (decide (0 < l ∧ l ≤ 100000) && checkS single R G V T)) = true := by
  rw [h, legalB_iff]
  simp only [Bool.and_eq_true, decide_eq_true_eq, and_assoc]
 rw [hb] at h2
 cases q <;> cases b <;> simp_all
def ex1T : List StepT := stpF exG 9 3 0 (([4, 3] : List Int).map run0) 0 0
def ex2T : List StepT := stpF exG 8 3 0 (([4, 3] : List Int).map run0) 0 0
theorem hd1 : packF false exG 3 0 (([4, 3] : List Int).map run0) = 9 ∧ solF false [4, 3] exG 3 0 (([4, 3] : List Int).map run0) 9 = [(0, 0), (1, 0), (-1, 0)] := by decide +kernel
theorem hd2 : packF true exG 3 0 (([4, 3] : List Int).map run0) = 8 ∧ solF true [4, 3] exG 3 0 (([4, 3] : List Int).map run0) 8 = [(1, 0), (-1, 0), (0, 0)] := by decide +kernel
theorem hd3 : packF false [] 0 0 (([5] : List Int).map run0) = 0 ∧ solF false [5] [] 0 0 (([5] : List Int).map run0) 0 = [] ∧ (stpF [] 0 0 0 (([5] : List Int).map run0) 0 0).length = 1 := by decide +kernel
theorem hd4 : (legalB false [4, 3] exG [(0, 0), (1, 0), (-1, 0)] 9 && (decide (0 < ex1T.length ∧ ex1T.length ≤ 100000) && checkS false [4, 3] exG 9 ex1T)) = true := by decide +kernel
theorem hd5 : (legalB true [4, 3] exG [(1, 0), (-1, 0), (0, 0)] 8 && (decide (0 < ex2T.length ∧ ex2T.length ≤ 100000) && checkS true [4, 3] exG 8 ex2T)) = true := by decide +kernel
theorem hd6 : validS [4, 3] exG = true ∧ validS [5] [] = true ∧ validS [0] [] = false ∧ validS [] (List.replicate 9 (0, 0)) = false := by decide +kernel
theorem good_ok {single : Bool} {R : List Int} {G : List (Int × Int)} {m : Nat} {w w' : World} {e : Ending} (h : GoodP single R G m w e w') {B : Int} {S : List (Int × Int)} {T : List StepT} {l : Nat} (h1 : packF single G m 0 (R.map run0) = B) (h2 : solF single R G m 0 (R.map run0) B = S) (h3 : stpF G B m 0 (R.map run0) 0 0 = T) (h4 : T.length = l) (h5 : l ≤ 100000) :
  ∃ sa sc pa pc, e = .returned (.tuple #[.agg #[.slice sa m sc, .int .i64 B], .agg #[.slice pa l pc], .int .i64 0]) ∧ Below w.heap.size w w' ∧ Pairs w' sa m S ∧ Steps w' pa l T := by
 obtain ⟨hb, hc⟩ := h
 rw [h1, h2, h3] at hc
 rcases hc with ⟨_, sa, sc, pa, n, pc, rfl, hp, hs, rfl⟩ | ⟨hc, _⟩
 ·
  rw [h4] at hs ⊢
  exact ⟨sa, sc, pa, pc, rfl, hb, hp, hs⟩
 ·
  omega
/-- What Solve returned, in two variables. -/
structure Got (w : World) (bx bp : Nat) (sa : Option Addr) (m sc : Nat) (B : Int) (pa : Option Addr) (l pc : Nat) (S : List (Int × Int)) (T : List StepT) : Prop where
 x : w.heap[bx]? = some (.cells #[.slice sa m sc, .int .i64 B] 31 (0, 0))
 y : w.heap[bp]? = some (.cells #[.slice pa l pc] 34 (0, 0))
 pairs : Pairs w sa m S
 steps : Steps w pa l T
theorem Got.below {w w' : World} {bx bp : Nat} {sa : Option Addr} {m sc : Nat} {B : Int} {pa : Option Addr} {l pc : Nat} {S : List (Int × Int)} {T : List StepT} (h : Got w bx bp sa m sc B pa l pc S T) (hb : Below w.heap.size w w') : Got w' bx bp sa m sc B pa l pc S T :=
 ⟨(hb.block _ (lt_of_block h.x)).trans h.x, (hb.block _ (lt_of_block h.y)).trans h.y, h.pairs.below hb, h.steps.below hb⟩
theorem got_new {w : World} {sa : Option Addr} {m sc : Nat} {B : Int} {pa : Option Addr} {l pc : Nat} {S : List (Int × Int)} {T : List StepT} (hp : Pairs w sa m S) (hs : Steps w pa l T) :
  ∃ wa wb bx bp, w.alloc (.cells #[.slice none 0 0, .int .i64 0] 31) = wa ∧ bx = w.heap.size ∧ wa.alloc (.cells #[.slice none 0 0] 34) = wb ∧ bp = wa.heap.size ∧
   (storeVar 31 ⟨bx, 0, none⟩ (.agg #[.slice sa m sc, .int .i64 B])).run Tryz.prog wb = .ok () (wb.setRow bx #[.slice sa m sc, .int .i64 B]) ∧
   (storeVar 34 ⟨bp, 0, none⟩ (.agg #[.slice pa l pc])).run Tryz.prog (wb.setRow bx #[.slice sa m sc, .int .i64 B]) = .ok () ((wb.setRow bx #[.slice sa m sc, .int .i64 B]).setRow bp #[.slice pa l pc]) ∧
   Hid (Below w.heap.size w ((wb.setRow bx #[.slice sa m sc, .int .i64 B]).setRow bp #[.slice pa l pc]) ∧ Got ((wb.setRow bx #[.slice sa m sc, .int .i64 B]).setRow bp #[.slice pa l pc]) bx bp sa m sc B pa l pc S T) := by
 have a1 := heap_new w (.cells #[.slice none 0 0, .int .i64 0] 31)
 have b1 := Joins.below_alloc1 w (.cells #[.slice none 0 0, .int .i64 0] 31)
 have a2 := heap_new (w.alloc (.cells #[.slice none 0 0, .int .i64 0] 31)) (.cells #[.slice none 0 0] 34)
 have b2 := Joins.below_alloc1 (w.alloc (.cells #[.slice none 0 0, .int .i64 0] 31)) (.cells #[.slice none 0 0] 34)
 have a12 := (b2.block _ (lt_of_block a1)).trans a1
 have hb2 := b1.trans (b2.mono b1.size)
 have hn := b1.size
 refine ⟨_, _, _, _, rfl, rfl, rfl, rfl, ?_⟩
 generalize (w.alloc (.cells #[.slice none 0 0, .int .i64 0] 31)).alloc (.cells #[.slice none 0 0] 34) = w2 at *
 generalize (w.alloc (.cells #[.slice none 0 0, .int .i64 0] 31)).heap.size = bp at *
 have t1 := tupd_row a12 #[.slice sa m sc, .int .i64 B]
 have r1 := setRow_heap _ _ _ #[.slice sa m sc, .int .i64 B] _ (0, 0) a12
 have r2 := t1.keep a2 (by decide)
 have t2 := tupd_row r2 #[.slice pa l pc]
 have hb4 := below_setRow (below_setRow hb2 (Nat.le_refl _) #[.slice sa m sc, .int .i64 B]) hn #[.slice pa l pc]
 exact ⟨run_storeVar_row _ _ _ _ _ _ a12 (by kernel_rfl) rfl (by simp [Value.oneCell']), run_storeVar_row _ _ _ _ _ _ r2 (by kernel_rfl) rfl (by simp [Value.oneCell']), hb4, t2.keep r1 (by decide), setRow_heap _ _ _ _ _ (0, 0) r2, hp.below hb4, hs.below hb4⟩
theorem nil_pairs (w : World) : Pairs w none 0 [] := ⟨rfl, fun k hk => absurd hk (Nat.not_lt_zero _)⟩
theorem nil_steps (w : World) : Steps w none 0 [] := ⟨rfl, fun k hk => absurd hk (Nat.not_lt_zero _)⟩
theorem tri_block {w : World} {g : Nat} {T : TypeId} {a b c d e f : Int} (h : w.heap[g]? = some (.cells #[.int .i64 a, .int .i64 b, .int .i64 c, .int .i64 d, .int .i64 e, .int .i64 f] T (0, 0))) (S : List (Int × Int)) (hS : S = [(a, b), (c, d), (e, f)] := by rfl) : Pairs w (some ⟨g, 0, none⟩) 3 S := by
 subst hS
 refine ⟨rfl, fun k hk => ⟨g, 0, rfl, ?_, ?_⟩⟩ <;> rw [Nat.zero_add]
 ·
  rcases (show k = 0 ∨ k = 1 ∨ k = 2 by omega) with rfl | rfl | rfl <;> exact boxed_cell h rfl
 ·
  rcases (show k = 0 ∨ k = 1 ∨ k = 2 by omega) with rfl | rfl | rfl <;> exact boxed_cell h rfl
theorem make_groups (n : Nat) (hn : n ≤ 4000) : ∃ arr : Array Value, (∀ k, k < n * 2 → arr[k]? = some (.int .i64 0)) ∧
  ∀ w : World, (Instr.makeSlice 23 (.int .i64 (n : Int)) (.int .i64 (n : Int))).run Tryz.prog w = .ok (.slice (some ⟨w.heap.size, 0, none⟩) n n) (w.alloc (.cells arr 49)) := by
 have hinfo : (Tryz.prog.info? 49).map (fun i => (i.zero, i.size, i.bytes)) = some (some (.agg #[.int .i64 0, .int .i64 0]), 2, 16) := by kernel_rfl
 obtain ⟨i, hi, hzz⟩ := Option.map_eq_some_iff.1 hinfo
 simp only [Prod.mk.injEq] at hzz
 obtain ⟨hz, hs, hb⟩ := hzz
 refine ⟨madeCells #[.int .i64 0, .int .i64 0] (n * 2), fun k hk => ?_, fun w => ?_⟩
 ·
  simp only [madeCells, Array.getElem?_map, Array.getElem?_range, hk]
  rcases Nat.mod_two_eq_zero_or_one k with h | h <;> simp [h]
 ·
  have h := run_make (P := Tryz.prog) w 23 49 i (.agg #[.int .i64 0, .int .i64 0]) Tryz.underlying23 hi hz .i64 .i64 n n (by omega) (Int.le_refl _) (by rw [hb]; omega) (by omega)
  rw [hs] at h
  simpa [Value.cells] using h
theorem zero_groups {w : World} {g n : Nat} {arr : Array Value} {T : TypeId} (h : w.heap[g]? = some (.cells arr T (0, 0))) (ha : ∀ k, k < n * 2 → arr[k]? = some (.int .i64 0)) : Pairs w (some ⟨g, 0, none⟩) n (List.replicate n (0, 0)) := by
 refine ⟨by simp, fun k hk => ⟨g, 0, rfl, ?_, ?_⟩⟩
 ·
  rw [Nat.zero_add, boxed_cell (j := k * 2) h (ha _ (by omega))]
  simp [gs, hk]
 ·
  rw [Nat.zero_add, boxed_cell (j := k * 2 + 1) h (ha _ (by omega))]
  simp [gv, hk]
set_option maxRecDepth 100000 in
set_option maxHeartbeats 32000000 in
theorem head_any (w : World) (hk : PKit w) : Calls Tryz.prog 8 #[] w fun e w' => e = .returned (.bool true) ∧ Below w.heap.size w w' := by
 have HK := Lib.hid hk
 clear hk
 refine enter_fr (N := 112) [] (Tryz.func8) rfl Tryz.ntmps8 (by rfl) (fun a hF => ?_);replace hF := hF.kp [] rfl;revert hF;refine zrs [2] [] fun a hF => ?_
 have HB : Hid (Below w.heap.size w w) := Below.refl _ _
 refine wp_seq_k (fun K hK => ?_);refine region_seq (l := [0, 1, 2, 3, 4, 5, 6, 7, 8, 9, 10]) (by kernel_rfl) ?_;revert hF;refine zos fun K hK => ?_
 refine (example_any w false).mono ?_
 rintro e we1 ⟨ba, bg, rfl, hb, hA, hG⟩
 have HB := Lib.hid (HB.out.trans (hb.mono HB.out.size))
 clear hb
 refine hK _ _ (fun a hF => ?_);clear hK K;revert hF;refine zos fun K hK => ?_
 refine (solve_good we1 (some ⟨ba, 0, none⟩) (some ⟨bg, 0, none⟩) 2 3 3 false [4, 3] exG (by decide) (by decide) (by decide) hA hG hd6.1 (HK.out.below HB.out)).mono ?_
 rintro e ws1 hgd
 obtain ⟨sa1, sc1, pa1, pc1, rfl, hb, hp, hs⟩ := good_ok hgd (T := ex1T) (l := ex1T.length) hd1.1 hd1.2 rfl rfl (by decide +kernel)
 have HB := Lib.hid (HB.out.trans (hb.mono HB.out.size))
 have HPS := Lib.hid (And.intro hp hs)
 clear hgd hA hG hb hp hs
 refine hK _ _ (fun a hF => ?_);clear hK K;revert hF;refine zrc 2 [1, 4, 4, 4] [6, 7, 8, 9, 10] fun a hF => ?_;refine seq_one ?_;revert hF;refine qe0 fun a hF => ?_
 obtain ⟨wa1, wb1, bx1, bp1, e1, e2, e3, e4, hSV, hSV2, HN⟩ := got_new (sc := sc1) (B := 9) (pc := pc1) HPS.out.1 HPS.out.2
 rw [e1]
 rw [← e2] at hF
 clear e1
 refine seq_one ?_;revert hF;refine qe0 fun a hF => ?_
 try rw [e3]
 rw [← e4] at hF
 clear e2 e3 e4
 refine seq_one ?_;refine op_storev rfl rfl hF rfl rfl rfl rfl hSV ?_;clear hF;refine fun a hF => ?_
 clear hSV
 have hSV := hSV2
 clear hSV2
 refine seq_one ?_;refine op_storev rfl rfl hF rfl rfl rfl rfl hSV ?_;clear hF;refine fun a hF => ?_
 clear hSV
 have HB := Lib.hid (HB.out.trans (HN.out.1.mono HB.out.size))
 have HG1 := Lib.hid HN.out.2
 clear HN HPS
 generalize (wb1.setRow bx1 _).setRow bp1 _ = wz1 at *
 revert hF;refine zre 10 [2] [1, 2, 3] fun a hF => ?_;refine hK _ _ ?_;clear hK;refine wp_seq_k (fun K hK => ?_);refine region_seq (l := [0, 1, 2, 3, 4, 5, 6, 7, 8, 9, 10]) (by kernel_rfl) ?_;revert hF;refine zos fun K hK => ?_
 refine (example_any wz1 true).mono ?_
 rintro e we2 ⟨ba, bg, rfl, hb, hA, hG⟩
 have HB := Lib.hid (HB.out.trans (hb.mono HB.out.size))
 have HG1 := Lib.hid (HG1.out.below hb)
 clear hb
 refine hK _ _ (fun a hF => ?_);clear hK K;revert hF;refine zos fun K hK => ?_
 refine (solve_good we2 (some ⟨ba, 0, none⟩) (some ⟨bg, 0, none⟩) 2 3 3 true [4, 3] exG (by decide) (by decide) (by decide) hA hG hd6.1 (HK.out.below HB.out)).mono ?_
 rintro e ws2 hgd
 obtain ⟨sa2, sc2, pa2, pc2, rfl, hb, hp, hs⟩ := good_ok hgd (T := ex2T) (l := ex2T.length) hd2.1 hd2.2 rfl rfl (by decide +kernel)
 have HB := Lib.hid (HB.out.trans (hb.mono HB.out.size))
 have HG1 := Lib.hid (HG1.out.below hb)
 have HPS := Lib.hid (And.intro hp hs)
 clear hgd hA hG hb hp hs
 refine hK _ _ (fun a hF => ?_);clear hK K;revert hF;refine zrc 2 [1, 4, 4, 4] [6, 7, 8, 9, 10] fun a hF => ?_;refine seq_one ?_;revert hF;refine qe0 fun a hF => ?_
 obtain ⟨wa2, wb2, bx2, bp2, e1, e2, e3, e4, hSV, hSV2, HN⟩ := got_new (sc := sc2) (B := 8) (pc := pc2) HPS.out.1 HPS.out.2
 rw [e1]
 rw [← e2] at hF
 clear e1
 refine seq_one ?_;revert hF;refine qe0 fun a hF => ?_
 try rw [e3]
 rw [← e4] at hF
 clear e2 e3 e4
 refine seq_one ?_;refine op_storev rfl rfl hF rfl rfl rfl rfl hSV ?_;clear hF;refine fun a hF => ?_
 clear hSV
 have hSV := hSV2
 clear hSV2
 refine seq_one ?_;refine op_storev rfl rfl hF rfl rfl rfl rfl hSV ?_;clear hF;refine fun a hF => ?_
 clear hSV
 have HB := Lib.hid (HB.out.trans (HN.out.1.mono HB.out.size))
 have HG1 := Lib.hid (HG1.out.below HN.out.1)
 have HG2 := Lib.hid HN.out.2
 clear HN HPS
 generalize (wb2.setRow bx2 _).setRow bp2 _ = wz2 at *
 revert hF;refine zre 10 [2] [1, 2, 3, 4, 5, 6] fun a hF => ?_;refine hK _ _ ?_;clear hK;refine wp_seq_k (fun K hK => ?_);refine region_seq (l := [0, 1, 2, 3, 4, 5, 6, 7, 8, 9, 10, 11]) (by kernel_rfl) ?_;refine seq_one ?_;revert hF;refine qe0 fun a hF => ?_
 have h1 := heap_new wz2 (.cells #[.int .i64 5] 3)
 have hb := Joins.below_alloc1 wz2 (.cells #[.int .i64 5] 3)
 generalize wz2.alloc (.cells #[.int .i64 5] 3) = wc3 at *
 obtain ⟨bc3, hg⟩ : ∃ x, x = wz2.heap.size := ⟨_, rfl⟩
 rw [← hg] at hF h1
 clear hg
 have HB := Lib.hid (HB.out.trans (hb.mono HB.out.size))
 have HG1 := Lib.hid (HG1.out.below hb)
 have HG2 := Lib.hid (HG2.out.below hb)
 clear hb
 revert hF;refine zrc 1 [4] [2, 3, 4, 5, 6, 7, 8, 9, 10, 11] fun a hF => ?_;revert hF;refine zos fun K hK => ?_
 refine (solve_good wc3 (some ⟨bc3, 0, none⟩) none 1 0 0 false [5] [] (by decide) (by decide) (by decide) (ints_block (L := [5]) h1) (nil_pairs _) hd6.2.1 (HK.out.below HB.out)).mono ?_
 rintro e ws3 hgd
 obtain ⟨sa3, sc3, pa3, pc3, rfl, hb, hp, hs⟩ := good_ok hgd hd3.1 hd3.2.1 rfl hd3.2.2 (by decide)
 have HB := Lib.hid (HB.out.trans (hb.mono HB.out.size))
 have HG1 := Lib.hid (HG1.out.below hb)
 have HG2 := Lib.hid (HG2.out.below hb)
 have HPS := Lib.hid (And.intro hp hs)
 clear hgd h1 hb hp hs
 refine hK _ _ (fun a hF => ?_);clear hK K;revert hF;refine zrc 3 [1, 4, 4, 4] [7, 8, 9, 10, 11] fun a hF => ?_;refine seq_one ?_;revert hF;refine qe0 fun a hF => ?_
 obtain ⟨wa3, wb3, bx3, bp3, e1, e2, e3, e4, hSV, hSV2, HN⟩ := got_new (sc := sc3) (B := 0) (pc := pc3) HPS.out.1 HPS.out.2
 rw [e1]
 rw [← e2] at hF
 clear e1
 refine seq_one ?_;revert hF;refine qe0 fun a hF => ?_
 try rw [e3]
 rw [← e4] at hF
 clear e2 e3 e4
 refine seq_one ?_;refine op_storev rfl rfl hF rfl rfl rfl rfl hSV ?_;clear hF;refine fun a hF => ?_
 clear hSV
 have hSV := hSV2
 clear hSV2
 refine seq_one ?_;refine op_storev rfl rfl hF rfl rfl rfl rfl hSV ?_;clear hF;refine fun a hF => ?_
 clear hSV
 have HB := Lib.hid (HB.out.trans (HN.out.1.mono HB.out.size))
 have HG1 := Lib.hid (HG1.out.below HN.out.1)
 have HG2 := Lib.hid (HG2.out.below HN.out.1)
 have HG3 := Lib.hid HN.out.2
 clear HN HPS
 generalize (wb3.setRow bx3 _).setRow bp3 _ = wz3 at *
 revert hF;refine zre 11 [2] [1, 2, 3, 4, 5, 6, 7, 8, 9] fun a hF => ?_;refine hK _ _ ?_;clear hK;refine wp_seq_k (fun K hK => ?_);refine region_seq (l := [0, 1, 2, 3, 4, 5, 6, 7, 8, 9, 10, 11]) (by kernel_rfl) ?_;refine seq_one ?_;revert hF;refine qe0 fun a hF => ?_
 have h1 := heap_new wz3 (.cells #[.int .i64 0] 3)
 have hb := Joins.below_alloc1 wz3 (.cells #[.int .i64 0] 3)
 generalize wz3.alloc (.cells #[.int .i64 0] 3) = wc4 at *
 obtain ⟨bc4, hg⟩ : ∃ x, x = wz3.heap.size := ⟨_, rfl⟩
 rw [← hg] at hF h1
 clear hg
 have HB := Lib.hid (HB.out.trans (hb.mono HB.out.size))
 have HG1 := Lib.hid (HG1.out.below hb)
 have HG2 := Lib.hid (HG2.out.below hb)
 have HG3 := Lib.hid (HG3.out.below hb)
 clear hb
 revert hF;refine zrc 1 [4] [2, 3, 4, 5, 6, 7, 8, 9, 10, 11] fun a hF => ?_;revert hF;refine zos fun K hK => ?_
 refine (solve_bad wc4 (some ⟨bc4, 0, none⟩) none 1 0 0 false [0] [] (by decide) (by decide) (ints_block (L := [0]) h1) (nil_pairs _) hd6.2.2.1).mono ?_
 rintro e ws4 ⟨rfl, hb⟩
 have HB := Lib.hid (HB.out.trans (hb.mono HB.out.size))
 have HG1 := Lib.hid (HG1.out.below hb)
 have HG2 := Lib.hid (HG2.out.below hb)
 have HG3 := Lib.hid (HG3.out.below hb)
 have HPS : Hid (Pairs ws4 none 0 [] ∧ Steps ws4 none 0 []) := ⟨nil_pairs _, nil_steps _⟩
 clear h1 hb
 refine hK _ _ (fun a hF => ?_);clear hK K;revert hF;refine zrc 3 [1, 4, 4, 4] [7, 8, 9, 10, 11] fun a hF => ?_;refine seq_one ?_;revert hF;refine qe0 fun a hF => ?_
 obtain ⟨wa4, wb4, bx4, bp4, e1, e2, e3, e4, hSV, hSV2, HN⟩ := got_new (sc := 0) (B := 0) (pc := 0) HPS.out.1 HPS.out.2
 rw [e1]
 rw [← e2] at hF
 clear e1
 refine seq_one ?_;revert hF;refine qe0 fun a hF => ?_
 try rw [e3]
 rw [← e4] at hF
 clear e2 e3 e4
 refine seq_one ?_;refine op_storev rfl rfl hF rfl rfl rfl rfl hSV ?_;clear hF;refine fun a hF => ?_
 clear hSV
 have hSV := hSV2
 clear hSV2
 refine seq_one ?_;refine op_storev rfl rfl hF rfl rfl rfl rfl hSV ?_;clear hF;refine fun a hF => ?_
 clear hSV
 have HB := Lib.hid (HB.out.trans (HN.out.1.mono HB.out.size))
 have HG1 := Lib.hid (HG1.out.below HN.out.1)
 have HG2 := Lib.hid (HG2.out.below HN.out.1)
 have HG3 := Lib.hid (HG3.out.below HN.out.1)
 have HG4 := Lib.hid HN.out.2
 clear HN HPS
 generalize (wb4.setRow bx4 _).setRow bp4 _ = wz4 at *
 revert hF;refine zre 11 [2] [1, 2, 3, 4, 5, 6, 7, 8, 9, 12] fun a hF => ?_;refine hK _ _ ?_;clear hK
 clear HG4
 obtain ⟨arr9, hz9, hmk9⟩ := make_groups 9 (by decide)
 have hmk : ∀ w : World, (Instr.makeSlice 23 (.int .i64 9) (.int .i64 9)).run Tryz.prog w = .ok (.slice (some ⟨w.heap.size, 0, none⟩) 9 9) (w.alloc (.cells arr9 49)) := hmk9
 clear hmk9
 refine wp_seq_k (fun K hK => ?_);refine region_seq (l := [0, 1, 2, 3, 4, 5, 6, 7, 8, 9, 10, 11]) (by kernel_rfl) ?_;refine seq_one ?_;revert hF;refine qe0 fun a hF => ?_
 have h1 := heap_new wz4 (.cells arr9 49)
 have hb := Joins.below_alloc1 wz4 (.cells arr9 49)
 generalize wz4.alloc (.cells arr9 49) = wc5 at *
 obtain ⟨bc5, hg⟩ : ∃ x, x = wz4.heap.size := ⟨_, rfl⟩
 rw [← hg] at hF h1
 clear hg
 have HB := Lib.hid (HB.out.trans (hb.mono HB.out.size))
 have HG1 := Lib.hid (HG1.out.below hb)
 have HG2 := Lib.hid (HG2.out.below hb)
 have HG3 := Lib.hid (HG3.out.below hb)
 clear hb
 revert hF;refine zrc 1 [4] [2, 3, 4, 5, 6, 7, 8, 9, 10, 11] fun a hF => ?_;revert hF;refine zos fun K hK => ?_
 refine (solve_bad wc5 none (some ⟨bc5, 0, none⟩) 0 9 9 false [] (List.replicate 9 (0, 0)) (by decide) (by decide) ⟨rfl, fun k hk => absurd hk (Nat.not_lt_zero _)⟩ (zero_groups h1 hz9) hd6.2.2.2).mono ?_
 rintro e ws5 ⟨rfl, hb⟩
 have HB := Lib.hid (HB.out.trans (hb.mono HB.out.size))
 have HG1 := Lib.hid (HG1.out.below hb)
 have HG2 := Lib.hid (HG2.out.below hb)
 have HG3 := Lib.hid (HG3.out.below hb)
 have HPS : Hid (Pairs ws5 none 0 [] ∧ Steps ws5 none 0 []) := ⟨nil_pairs _, nil_steps _⟩
 clear h1 hb hmk hz9
 refine hK _ _ (fun a hF => ?_);clear hK K;revert hF;refine zrc 3 [1, 4, 4, 4] [7, 8, 9, 10, 11] fun a hF => ?_;refine seq_one ?_;revert hF;refine qe0 fun a hF => ?_
 obtain ⟨wa5, wb5, bx5, bp5, e1, e2, e3, e4, hSV, hSV2, HN⟩ := got_new (sc := 0) (B := 0) (pc := 0) HPS.out.1 HPS.out.2
 rw [e1]
 rw [← e2] at hF
 clear e1
 refine seq_one ?_;revert hF;refine qe0 fun a hF => ?_
 try rw [e3]
 rw [← e4] at hF
 clear e2 e3 e4
 refine seq_one ?_;refine op_storev rfl rfl hF rfl rfl rfl rfl hSV ?_;clear hF;refine fun a hF => ?_
 clear hSV
 have hSV := hSV2
 clear hSV2
 refine seq_one ?_;refine op_storev rfl rfl hF rfl rfl rfl rfl hSV ?_;clear hF;refine fun a hF => ?_
 clear hSV
 have HB := Lib.hid (HB.out.trans (HN.out.1.mono HB.out.size))
 have HG1 := Lib.hid (HG1.out.below HN.out.1)
 have HG2 := Lib.hid (HG2.out.below HN.out.1)
 have HG3 := Lib.hid (HG3.out.below HN.out.1)
 have HG5 := Lib.hid HN.out.2
 clear HN HPS
 generalize (wb5.setRow bx5 _).setRow bp5 _ = wz5 at *
 revert hF;refine zre 11 [2] [1, 2, 3, 4, 5, 6, 7, 8, 9, 12, 15] fun a hF => ?_;refine hK _ _ ?_;clear hK
 clear HG5
 refine wp_seq_k (fun K hK => ?_)
 have hbd := below_d (Below.refl wz5.heap.size wz5)
 have HB := Lib.hid (HB.out.trans (hbd.mono HB.out.size))
 have HG1 := Lib.hid (HG1.out.below hbd)
 have HG2 := Lib.hid (HG2.out.below hbd)
 have HG3 := Lib.hid (HG3.out.below hbd)
 have x0 := boxed_cell (j := 0) HG1.out.x rfl
 have x1 := boxed_cell (j := 1) HG1.out.x rfl
 have y0 := boxed_cell (j := 0) HG1.out.y rfl
 have HST : Hid (∀ w', Below wz5.drew.heap.size wz5.drew w' → Below wz5.drew.heap.size wz5.drew w' ∧ w'.cell? ⟨bx1, 0, none⟩ = some (.slice sa1 3 sc1) ∧ w'.cell? ⟨bx1, 1, none⟩ = some (.int .i64 9) ∧ w'.cell? ⟨bp1, 0, none⟩ = some (.slice pa1 ex1T.length pc1)) := fun w' hb => ⟨hb, Below.cell_of hb x0, Below.cell_of hb x1, Below.cell_of hb y0⟩
 clear x0 x1 y0 hbd
 refine region_any (by kernel_rfl) ?_;generalize wz5.drew = wd at *;revert hF;refine zhc (fuel := 11) (fun w' => Below wd.heap.size wd w' ∧ w'.cell? ⟨bx1, 0, none⟩ = some (.slice sa1 3 sc1) ∧ w'.cell? ⟨bx1, 1, none⟩ = some (.int .i64 9) ∧ w'.cell? ⟨bp1, 0, none⟩ = some (.slice pa1 ex1T.length pc1)) (HST.out _ (Below.refl _ _)) [1, 24, 33, 51, 72, 88, 104] fun a hF => ?_;refine held_one (n := 7) (fuel := 10) (by kernel_rfl) ?_;revert hF;refine qe3 fun a hF => ⟨?_, ?_⟩
 ·
  intro _
  exact HST.out _ (Joins.below_alloc1 wd _)
 have h1 := heap_new wd (.cells #[.int .i64 0, .int .i64 0, .int .i64 1, .int .i64 0, .int .i64 (-1), .int .i64 0] 46)
 have hb := Joins.below_alloc1 wd (.cells #[.int .i64 0, .int .i64 0, .int .i64 1, .int .i64 0, .int .i64 (-1), .int .i64 0] 46)
 generalize wd.alloc (.cells #[.int .i64 0, .int .i64 0, .int .i64 1, .int .i64 0, .int .i64 (-1), .int .i64 0] 46) = we at *
 obtain ⟨bs, hg⟩ : ∃ x, x = wd.heap.size := ⟨_, rfl⟩
 rw [← hg] at hF h1
 clear hg
 have HB := Lib.hid (HB.out.trans (hb.mono HB.out.size))
 have HG1 := Lib.hid (HG1.out.below hb)
 have HG2 := Lib.hid (HG2.out.below hb)
 have HG3 := Lib.hid (HG3.out.below hb)
 have HBD := Lib.hid hb
 clear hb
 revert hF;refine zhg (fuel := 9) (HST.out _ HBD.out) [136] fun a hF => ?_;refine held_one (n := 9) (fuel := 8) (by kernel_rfl) ?_;revert hF;refine zoc fun K hK => ?_
 refine (same_any we sa1 (some ⟨bs, 0, none⟩) 3 sc1 3 3 9 9 [(0, 0), (1, 0), (-1, 0)] [(0, 0), (1, 0), (-1, 0)] HG1.out.pairs (tri_block h1 _) (by decide) (by decide)).mono ?_
 rintro e wf ⟨q, rfl, hb, hq⟩
 obtain rfl : q = true := hq.mpr ⟨rfl, rfl⟩
 have HBD := Lib.hid (HBD.out.trans (hb.mono HBD.out.size))
 have HB := Lib.hid (HB.out.trans (hb.mono HB.out.size))
 have HG1 := Lib.hid (HG1.out.below hb)
 have HG2 := Lib.hid (HG2.out.below hb)
 have HG3 := Lib.hid (HG3.out.below hb)
 clear h1 hq hb
 refine hK _ _ (fun a hF => ⟨?_, ?_⟩)
 ·
  intro _
  exact HST.out _ HBD.out
 clear hK K
 revert hF;refine zhg (fuel := 4) (HST.out _ HBD.out) [168, 177, 211, 227] fun a hF => ?_;refine held_one (n := 12) (fuel := 3) (by kernel_rfl) ?_;revert hF;refine zoc fun K hK => ?_
 refine (example_any wf false).mono ?_
 rintro e wg ⟨ba, bg, rfl, hb, hA, hG⟩
 have HBD := Lib.hid (HBD.out.trans (hb.mono HBD.out.size))
 have HB := Lib.hid (HB.out.trans (hb.mono HB.out.size))
 have HG1 := Lib.hid (HG1.out.below hb)
 have HG2 := Lib.hid (HG2.out.below hb)
 have HG3 := Lib.hid (HG3.out.below hb)
 clear hb
 refine hK _ _ (fun a hF => ⟨?_, ?_⟩)
 ·
  intro _
  exact HST.out _ HBD.out
 clear hK K
 revert hF;refine zhg (fuel := 3) (HST.out _ HBD.out) [] fun a hF => ?_;refine held_one (n := 15) (fuel := 2) (by kernel_rfl) ?_;revert hF;refine zoc fun K hK => ?_
 refine (check_any (some ⟨ba, 0, none⟩) (some ⟨bg, 0, none⟩) sa1 pa1 2 2 3 3 3 sc1 ex1T.length pc1 false 9 [4, 3] exG [(0, 0), (1, 0), (-1, 0)] ex1T wg (by decide) (by decide) (by decide) hA hG HG1.out.pairs HG1.out.steps (fun h => by cases h)).mono ?_
 rintro e wh ⟨q, rfl, hb, hq⟩
 obtain rfl : q = true := check_eq hq hd4
 have HBD := Lib.hid (HBD.out.trans (hb.mono HBD.out.size))
 have HB := Lib.hid (HB.out.trans (hb.mono HB.out.size))
 have HG1 := Lib.hid (HG1.out.below hb)
 have HG2 := Lib.hid (HG2.out.below hb)
 have HG3 := Lib.hid (HG3.out.below hb)
 clear hq hb hA hG
 refine hK _ _ (fun a hF => ⟨?_, ?_⟩)
 ·
  intro _
  exact HST.out _ HBD.out
 clear hK K
 revert hF;refine zhg (fuel := 0) (HST.out _ HBD.out) [264, 274] fun a hF => ?_;refine held_end (by kernel_rfl) ?_;replace hF := hF.kp [4, 5, 6, 7, 8, 9, 12, 15, 16] rfl
 clear HST HBD
 refine hK _ _ ?_;clear hK
 generalize wh = wy1 at *
 refine wp_seq_k (fun K hK => ?_)
 have hbd := below_d (Below.refl wy1.heap.size wy1)
 have HB := Lib.hid (HB.out.trans (hbd.mono HB.out.size))
 have HG1 := Lib.hid (HG1.out.below hbd)
 have HG2 := Lib.hid (HG2.out.below hbd)
 have HG3 := Lib.hid (HG3.out.below hbd)
 have x0 := boxed_cell (j := 0) HG2.out.x rfl
 have x1 := boxed_cell (j := 1) HG2.out.x rfl
 have y0 := boxed_cell (j := 0) HG2.out.y rfl
 have HST : Hid (∀ w', Below wy1.drew.heap.size wy1.drew w' → Below wy1.drew.heap.size wy1.drew w' ∧ w'.cell? ⟨bx2, 0, none⟩ = some (.slice sa2 3 sc2) ∧ w'.cell? ⟨bx2, 1, none⟩ = some (.int .i64 8) ∧ w'.cell? ⟨bp2, 0, none⟩ = some (.slice pa2 ex2T.length pc2)) := fun w' hb => ⟨hb, Below.cell_of hb x0, Below.cell_of hb x1, Below.cell_of hb y0⟩
 clear x0 x1 y0 hbd
 refine region_any (by kernel_rfl) ?_;generalize wy1.drew = wd at *;revert hF;refine zhc (fuel := 11) (fun w' => Below wd.heap.size wd w' ∧ w'.cell? ⟨bx2, 0, none⟩ = some (.slice sa2 3 sc2) ∧ w'.cell? ⟨bx2, 1, none⟩ = some (.int .i64 8) ∧ w'.cell? ⟨bp2, 0, none⟩ = some (.slice pa2 ex2T.length pc2)) (HST.out _ (Below.refl _ _)) [1, 24, 33, 51, 72, 88, 104] fun a hF => ?_;refine held_one (n := 7) (fuel := 10) (by kernel_rfl) ?_;revert hF;refine qe3 fun a hF => ⟨?_, ?_⟩
 ·
  intro _
  exact HST.out _ (Joins.below_alloc1 wd _)
 have h1 := heap_new wd (.cells #[.int .i64 1, .int .i64 0, .int .i64 (-1), .int .i64 0, .int .i64 0, .int .i64 0] 46)
 have hb := Joins.below_alloc1 wd (.cells #[.int .i64 1, .int .i64 0, .int .i64 (-1), .int .i64 0, .int .i64 0, .int .i64 0] 46)
 generalize wd.alloc (.cells #[.int .i64 1, .int .i64 0, .int .i64 (-1), .int .i64 0, .int .i64 0, .int .i64 0] 46) = we at *
 obtain ⟨bs, hg⟩ : ∃ x, x = wd.heap.size := ⟨_, rfl⟩
 rw [← hg] at hF h1
 clear hg
 have HB := Lib.hid (HB.out.trans (hb.mono HB.out.size))
 have HG1 := Lib.hid (HG1.out.below hb)
 have HG2 := Lib.hid (HG2.out.below hb)
 have HG3 := Lib.hid (HG3.out.below hb)
 have HBD := Lib.hid hb
 clear hb
 revert hF;refine zhg (fuel := 9) (HST.out _ HBD.out) [136] fun a hF => ?_;refine held_one (n := 9) (fuel := 8) (by kernel_rfl) ?_;revert hF;refine zoc fun K hK => ?_
 refine (same_any we sa2 (some ⟨bs, 0, none⟩) 3 sc2 3 3 8 8 [(1, 0), (-1, 0), (0, 0)] [(1, 0), (-1, 0), (0, 0)] HG2.out.pairs (tri_block h1 _) (by decide) (by decide)).mono ?_
 rintro e wf ⟨q, rfl, hb, hq⟩
 obtain rfl : q = true := hq.mpr ⟨rfl, rfl⟩
 have HBD := Lib.hid (HBD.out.trans (hb.mono HBD.out.size))
 have HB := Lib.hid (HB.out.trans (hb.mono HB.out.size))
 have HG1 := Lib.hid (HG1.out.below hb)
 have HG2 := Lib.hid (HG2.out.below hb)
 have HG3 := Lib.hid (HG3.out.below hb)
 clear h1 hq hb
 refine hK _ _ (fun a hF => ⟨?_, ?_⟩)
 ·
  intro _
  exact HST.out _ HBD.out
 clear hK K
 revert hF;refine zhg (fuel := 4) (HST.out _ HBD.out) [168, 177, 211, 227] fun a hF => ?_;refine held_one (n := 12) (fuel := 3) (by kernel_rfl) ?_;revert hF;refine zoc fun K hK => ?_
 refine (example_any wf true).mono ?_
 rintro e wg ⟨ba, bg, rfl, hb, hA, hG⟩
 have HBD := Lib.hid (HBD.out.trans (hb.mono HBD.out.size))
 have HB := Lib.hid (HB.out.trans (hb.mono HB.out.size))
 have HG1 := Lib.hid (HG1.out.below hb)
 have HG2 := Lib.hid (HG2.out.below hb)
 have HG3 := Lib.hid (HG3.out.below hb)
 clear hb
 refine hK _ _ (fun a hF => ⟨?_, ?_⟩)
 ·
  intro _
  exact HST.out _ HBD.out
 clear hK K
 revert hF;refine zhg (fuel := 3) (HST.out _ HBD.out) [] fun a hF => ?_;refine held_one (n := 15) (fuel := 2) (by kernel_rfl) ?_;revert hF;refine zoc fun K hK => ?_
 refine (check_any (some ⟨ba, 0, none⟩) (some ⟨bg, 0, none⟩) sa2 pa2 2 2 3 3 3 sc2 ex2T.length pc2 true 8 [4, 3] exG [(1, 0), (-1, 0), (0, 0)] ex2T wg (by decide) (by decide) (by decide) hA hG HG2.out.pairs HG2.out.steps (fun h => by cases h)).mono ?_
 rintro e wh ⟨q, rfl, hb, hq⟩
 obtain rfl : q = true := check_eq hq hd5
 have HBD := Lib.hid (HBD.out.trans (hb.mono HBD.out.size))
 have HB := Lib.hid (HB.out.trans (hb.mono HB.out.size))
 have HG1 := Lib.hid (HG1.out.below hb)
 have HG2 := Lib.hid (HG2.out.below hb)
 have HG3 := Lib.hid (HG3.out.below hb)
 clear hq hb hA hG
 refine hK _ _ (fun a hF => ⟨?_, ?_⟩)
 ·
  intro _
  exact HST.out _ HBD.out
 clear hK K
 revert hF;refine zhg (fuel := 0) (HST.out _ HBD.out) [264, 274] fun a hF => ?_;refine held_end (by kernel_rfl) ?_;replace hF := hF.kp [7, 8, 9, 12, 15, 16, 17] rfl
 clear HST HBD
 refine hK _ _ ?_;clear hK
 generalize wh = wy2 at *
 have x1 := boxed_cell (j := 1) HG3.out.x rfl
 have y0 := boxed_cell (j := 0) HG3.out.y rfl
 revert hF;refine zrs [1, 1, 1, 5, 1, 1, 4, 5, 1, 4, 4, 4, 5, 1, 4, 4, 4, 4, 5, 1, 1, 4, 5, 1, 1, 4, 5, 2] [0] fun a hF => ?_
 clear x1 y0
 refine wp_ret ?_;(try simp only [then_ret, block_ret, goto_ret]);revert hF;refine zq ?_
 exact ⟨rfl, HB.out⟩
end Go.Proofs.YthabgljdndbphaaGreatDoor
