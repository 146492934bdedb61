/- pack: the prover in memory; pack: a step is added. -/
import Derived.Test.YthabgljdndbphaaGreatDoorQPKM24
import Derived.Test.YthabgljdndbphaaGreatDoorQPKM25

set_option linter.unusedVariables false
set_option linter.unusedSimpArgs false
namespace Go.Proofs.YthabgljdndbphaaGreatDoor
open Go.RowKit Go.IntWalk Go.Maps Go.WideMaps
set_option linter.unusedSimpArgs false
set_option linter.unusedVariables false

/-- A step as it lies: its kids are a slice. -/
structure StepR where
 (kind group : Int)
 (ka : Option Addr)
 (kn kc : Nat)
def StepE : Enc StepR 3 := ⟨fun x => [.int .i64 x.kind, .int .i64 x.group, .slice x.ka x.kn x.kc], fun _ => rfl, fun x v hv => by
 simp only [List.mem_cons, List.not_mem_nil, or_false] at hv
 rcases hv with rfl | rfl | rfl <;> rfl, by decide⟩
theorem info_step : (Tryz.prog.info? 71).map (fun i => (i.zero, i.size, i.bytes)) = some (some (.agg #[.int .i64 0, .int .i64 0, .slice none 0 0]), 3, 40) := by kernel_rfl
def rawS (k g : Int) : StepR := ⟨k, g, none, 0, 0⟩
/-- A step that lies reads as a step; X: blocks that its kids do not lie in. -/
structure StepLike (B : Nat) (X : Nat → Prop) (w : World) (r : StepR) (t : StepT) : Prop where
 kind : r.kind = t.kind
 group : r.group = t.group
 num : r.kn = t.kids.length
 kids : w.ownsRow B 3 1 (.slice r.ka r.kn r.kc) t.kids.length (t.kids.map (Value.int .i64))
 away : ∀ b, (Value.slice r.ka r.kn r.kc).ownBlock = some b → ¬ X b
def StepsLike (B : Nat) (X : Nat → Prop) (w : World) (Tr : List StepR) (T : List StepT) : Prop := Tr.length = T.length ∧ ∀ i (h1 : i < Tr.length) (h2 : i < T.length), StepLike B X w Tr[i] T[i]

/-- Where the prover lies, and its problem. -/
structure PA where
 wb : Nat
 (ra ga : Option Addr)
 (rn rc m gc : Nat)
 single : Bool
 val : Int
 G : List (Int × Int)
/-- The blocks that a proof's making writes. -/
abbrev PrvT (T : TypeId) : Prop := T = 60 ∨ T = 71
structure PrvM (wI w : World) (A : PA) (T : List StepT) (X : Nat → Prop) : Prop where
 below : Below wI.heap.size wI w
 new : wI.heap.size ≤ A.wb
 box : ∃ v Tr, w.heap[A.wb]? = some (.cells #[.slice A.ra A.rn A.rc, .slice A.ga A.m A.gc, .bool A.single, .int .i64 A.val, v] 60 (0, 0)) ∧ w.ownsRow wI.heap.size 71 3 v T.length (flat StepE Tr) ∧ StepsLike wI.heap.size X w Tr T
section
variable {wI w w' : World} {A : PA} {T : List StepT} {B : Nat} {X Y : Nat → Prop}
theorem StepLike.heap {r : StepR} {t : StepT} (h : StepLike B X w r t) (e : ∀ (b : Nat) (cur : Array Value), w.heap[b]? = some (.cells cur 3 (0, 0)) → ¬ X b → w'.heap[b]? = some (.cells cur 3 (0, 0))) : StepLike B X w' r t :=
 ⟨h.kind, h.group, h.num, row_of_heap h.kids fun b hb => by
  obtain ⟨cur, hc⟩ := own_type h.kids hb
  rw [e b cur hc (h.away b hb), hc], h.away⟩
theorem StepsLike.heap {Tr : List StepR} (h : StepsLike B X w Tr T) (e : ∀ (b : Nat) (cur : Array Value), w.heap[b]? = some (.cells cur 3 (0, 0)) → ¬ X b → w'.heap[b]? = some (.cells cur 3 (0, 0))) : StepsLike B X w' Tr T :=
 ⟨h.1, fun i h1 h2 => (h.2 i h1 h2).heap e⟩
theorem StepsLike.other {Tr : List StepR} (h : StepsLike B X w Tr T) (e : ∀ b, b < w.heap.size → Y b → X b) : StepsLike B Y w Tr T :=
 ⟨h.1, fun i h1 h2 => let q := h.2 i h1 h2; ⟨q.kind, q.group, q.num, q.kids, fun b hb hy => q.away b hb (e b (q.kids.lt b hb).2 hy)⟩⟩
theorem StepsLike.snoc {Tr : List StepR} {r : StepR} {t : StepT} (h : StepsLike B X w Tr T) (hr : StepLike B X w r t) : StepsLike B X w (Tr ++ [r]) (T ++ [t]) := by
 refine ⟨by simp [h.1], fun i h1 h2 => ?_⟩
 have hl := h.1
 by_cases e : i < Tr.length
 ·
  rw [List.getElem_append_left e, List.getElem_append_left (by omega)]
  exact h.2 i e (by omega)
 ·
  have : i = Tr.length := by simp at h1; omega
  subst this
  have e2 : (T ++ [t])[Tr.length]'h2 = t := by
   rw [List.getElem_append_right (by omega)]
   simp [hl]
  rw [e2, List.getElem_append_right (Nat.le_refl _)]
  simpa using hr
theorem PrvM.tupd {S : TypeId → Prop} (h : PrvM wI w A T X) (hb : Below wI.heap.size wI w') (ht : TUpd S w w') (h1 : ¬ S 60) (h2 : ¬ S 71) (h3 : ¬ S 3) : PrvM wI w' A T X := by
 obtain ⟨v, Tr, hbx, ho, hs⟩ := h.box
 exact ⟨hb, h.new, v, Tr, ht.keep hbx h1, row_of_heap ho fun b hb => by
  obtain ⟨cur, hc⟩ := own_type ho hb
  rw [ht.keep hc h2, hc], hs.heap fun b cur hc _ => ht.keep hc h3⟩
theorem PrvM.down (h : PrvM wI w A T X) (hb : Below w.heap.size w w') : PrvM wI w' A T X :=
 h.tupd (h.below.trans (hb.mono h.below.size)) (TUpd.of_below (S := fun _ => False) hb) (fun x => x) (fun x => x) (fun x => x)
theorem PrvM.other (h : PrvM wI w A T X) (e : ∀ b, b < w.heap.size → Y b → X b) : PrvM wI w A T Y := by
 obtain ⟨v, Tr, hbx, ho, hs⟩ := h.box
 exact ⟨h.below, h.new, v, Tr, hbx, ho, hs.other e⟩
/-- A row of numbers of the call's own grows, in a block that the steps keep away from. -/
theorem PrvM.kids {k n : Nat} {u : Value} {xs : List Value} (h : PrvM wI w A T X) (ho : w.ownsRow B 3 k u n xs) (hB : wI.heap.size ≤ B) (hg : w.grownBy w' u.ownBlock) (hx : ∀ b, u.ownBlock = some b → X b) : PrvM wI w' A T X := by
 obtain ⟨v, Tr, hbx, hrow, hs⟩ := h.box
 have ht := tupd_own ho hg
 refine ⟨h.below.grown hg h.below.size (fun k hk => Nat.le_trans hB (ho.lt k hk).1), h.new, v, Tr, ht.keep hbx (by decide), row_of_heap hrow fun b hb => ?_, hs.heap fun b cur hc hnx => ?_⟩
 ·
  obtain ⟨cur, hc⟩ := own_type hrow hb
  rw [ht.keep hc (by decide), hc]
 ·
  exact (hg.block b (lt_of_block hc) (fun e => hnx (hx b e.symm))).trans hc
end
theorem TUpd.grownNew {S : TypeId → Prop} {w w' w'' : World} {r : Option Nat} (h : TUpd S w w') (hg : w'.grownBy w'' r) (hr : ∀ k, r = some k → w.heap.size ≤ k) : TUpd S w w'' :=
 ⟨hg.os.trans h.os, hg.tape.trans h.tape, hg.output.trans h.output, Nat.le_trans h.size hg.size, fun b o hb hS => by
  have h1 := h.block b o hb hS
  refine (hg.block b (lt_of_block h1) (fun e => ?_)).trans h1
  have := hr b e.symm
  have := lt_of_block hb
  omega⟩
theorem TUpd.down {S : TypeId → Prop} {w w' w'' : World} (h : TUpd S w w') (hb : Below w'.heap.size w' w'') : TUpd S w w'' := h.trans (TUpd.of_below hb)
/-- What ends a proof that is too long. -/
def fullC : List PanicEntry := [{ v := .iface 55 (.agg #[]), recovered := false }]
/-- What makes steps: all of them, or the end. -/
def MakeP (wI w : World) (A : PA) (X : Nat → Prop) (T new : List StepT) (n : Nat) (e : Ending) (w' : World) : Prop :=
 (T.length + new.length ≤ 100000 ∧ e = .returned (.int .i64 n) ∧ PrvM wI w' A (T ++ new) X ∧ TUpd PrvT w w') ∨ (100000 < T.length + new.length ∧ e = .panicked fullC ∧ Below wI.heap.size wI w' ∧ TUpd PrvT w w')
end Go.Proofs.YthabgljdndbphaaGreatDoor

namespace Go.Proofs.YthabgljdndbphaaGreatDoor
open Go.RowKit Go.IntWalk Go.Maps Go.WideMaps
set_option linter.unusedSimpArgs false
set_option linter.unusedVariables false

/-- A step is laid behind the others: the world behind the append and the store. -/
theorem add_mem {wI w : World} {A : PA} {T : List StepT} {k g : Int} {gs : Nat} {X : Nat → Prop} (h : PrvM wI w A T X) (hT : T.length ≤ 100000) :
  ∃ la c, w.heap[A.wb]? = some (.cells #[.slice A.ra A.rn A.rc, .slice A.ga A.m A.gc, .bool A.single, .int .i64 A.val, .slice la T.length c] 60 (0, 0)) ∧
   ∀ (w1 : World) (bs : Nat), Below w.heap.size w w1 → Recs StepE w1 (some ⟨bs, 0, none⟩) 1 [rawS k g] →
    ∃ la' c' w2, (Builtin.append_ #[32, 32] 32 #[.slice la T.length c, .slice (some ⟨bs, 0, none⟩) 1 1]).run Tryz.prog w1 = .ok (.slice la' (T.length + 1) c') w2 ∧
     w2.cell? ⟨A.wb, 4, none⟩ = some (.slice la T.length c) ∧ w2.frozen? ⟨A.wb, 4, none⟩ = false ∧
     PrvM wI (w2.setCell ⟨A.wb, 4, none⟩ (.slice la' (T.length + 1) c')) A (T ++ [⟨k, g, []⟩]) X ∧ TUpd PrvT w (w2.setCell ⟨A.wb, 4, none⟩ (.slice la' (T.length + 1) c')) ∧
     (w2.setCell ⟨A.wb, 4, none⟩ (.slice la' (T.length + 1) c')).cell? ⟨A.wb, 4, none⟩ = some (.slice la' (T.length + 1) c') := by
 obtain ⟨v, Tr, hbx, ho, hs⟩ := h.box
 obtain ⟨la, c, rfl, _⟩ := Rcs.of_own ho
 have hTl := hs.1
 rw [hTl] at hbx ho
 refine ⟨la, c, hbx, fun w1 bs hb1 hr => ?_⟩
 have h1 := h.down hb1
 have hbx1 := (hb1.block A.wb (lt_of_block hbx)).trans hbx
 have ho1 := row_of_heap ho fun b hb => hb1.block b (ho.lt b hb).2
 obtain ⟨v', w2, hAPP, ho2, hg, _⟩ := append_recs (E := StepE) 32 71 32 Tryz.underlying32 info_step rfl (by decide) ho1 (u := .slice (some ⟨bs, 0, none⟩) 1 1) ⟨_, _, rfl, hr, fun h => by cases h⟩ (by simp; omega) h1.below.size
 have ht := tupd_own ho1 hg
 have hbx2 := ht.keep hbx1 (by decide)
 have ht2 := tupd_set (j := 4) hbx2 v'
 have hB2 : Below wI.heap.size wI w2 := h1.below.grown hg h1.below.size (fun k hk => (ho1.lt k hk).1)
 have hB3 : Below wI.heap.size wI (w2.setCell ⟨A.wb, 4, none⟩ v') := hB2.setCell (by show _ ≤ A.wb; exact h.new) _
 have hint : ∀ (b : Nat) (cur : Array Value), w.heap[b]? = some (.cells cur 3 (0, 0)) → (w2.setCell ⟨A.wb, 4, none⟩ v').heap[b]? = some (.cells cur 3 (0, 0)) := fun b cur hc =>
  ht2.keep (ht.keep ((hb1.block b (lt_of_block hc)).trans hc) (by decide)) (by decide)
 have hset : (w2.setCell ⟨A.wb, 4, none⟩ v').heap[A.wb]? = some (.cells #[.slice A.ra A.rn A.rc, .slice A.ga A.m A.gc, .bool A.single, .int .i64 A.val, v'] 60 (0, 0)) := by
  simp [World.setCell, Array.getElem?_modify, hbx2]
 obtain ⟨la', c', hv', _⟩ := Rcs.of_own ho2
 have hlen : (Tr ++ [rawS k g]).length = T.length + 1 := by rw [List.length_append, hTl]; rfl
 rw [hlen] at hv'
 subst hv'
 refine ⟨la', c', w2, hAPP, boxed_cell (j := 4) hbx2 rfl, Joins.unfrozen_of_block hbx2 4, ⟨hB3, h.new, _, Tr ++ [rawS k g], hset, ?_, ?_⟩, ?_, boxed_cell (j := 4) hset rfl⟩
 ·
  have : (T ++ [(⟨k, g, []⟩ : StepT)]).length = T.length + 1 := by simp
  rw [this]
  refine row_of_heap ho2 fun b hb => ?_
  obtain ⟨cur, hc⟩ := own_type ho2 hb
  rw [ht2.keep hc (by decide), hc]
 ·
  exact (hs.heap fun b cur hc _ => hint b cur hc).snoc ⟨rfl, rfl, rfl, nil_row, fun b hb => by cases hb⟩
 ·
  exact ((TUpd.of_below hb1).trans (ht.wide fun i e => Or.inr e)).trans (ht2.wide fun i e => Or.inl e)
set_option maxRecDepth 100000 in
set_option maxHeartbeats 8000000 in
theorem add_any (wI w : World) (A : PA) (T : List StepT) (k g : Int) (X : Nat → Prop) (h : PrvM wI w A T X) (hT : T.length ≤ 100000) :
  Calls Tryz.prog 26 #[.pointer (some ⟨A.wb, 0, none⟩), .agg #[.int .i64 k, .int .i64 g, .slice none 0 0]] w (MakeP wI w A X T [⟨k, g, []⟩] T.length) := by
 have HP := Lib.hid h
 clear h
 refine enter_fr (N := 29) [.pointer (some ⟨A.wb, 0, none⟩), .agg #[.int .i64 k, .int .i64 g, .slice none 0 0]] (Tryz.func26) rfl Tryz.ntmps26 (by rfl) (fun a hF => ?_);replace hF := hF.kp [0, 1] rfl;refine wp_seq_k (fun K hK => ?_);refine region_seq (l := [0, 1]) (by kernel_rfl) ?_;refine seq_one ?_;revert hF;refine qe1 fun a hF => ?_
 have hb1 := Joins.below_alloc1 w (.cells #[.int .i64 k, .int .i64 g, .slice none 0 0] 71)
 have HP1 := Lib.hid (HP.out.down hb1)
 have HT1 : Hid (TUpd PrvT w (w.alloc (.cells #[.int .i64 k, .int .i64 g, .slice none 0 0] 71))) := TUpd.of_below hb1
 have HS1 : Hid ((w.alloc (.cells #[.int .i64 k, .int .i64 g, .slice none 0 0] 71)).heap[w.heap.size]? = some (.cells #[.int .i64 k, .int .i64 g, .slice none 0 0] 71 (0, 0))) := heap_new _ _
 clear hb1 HP
 generalize w.alloc (.cells #[.int .i64 k, .int .i64 g, .slice none 0 0] 71) = w1 at *
 generalize w.heap.size = gs at *
 revert hF;refine zre 1 [2] [0, 3] fun a hF => ?_;refine hK _ _ ?_;clear hK
 obtain ⟨la, c, hbx, hAM⟩ := add_mem (k := k) (g := g) (gs := gs) HP1.out hT
 have b4 := boxed_cell (j := 4) hbx rfl
 clear hAM hbx
 refine wp_seq_k (fun K hK => ?_)
 by_cases hfull : T.length = 100000
 ·
  have hq : ((T.length : Int) == 100000) = true := by simpa using (by omega : (T.length : Int) = 100000)
  have HFU := Lib.hid hfull
  clear hfull
  revert hF;refine zrs [1, 4, 4, 4, 4, 4] [0, 3, 10] fun a hF => ?_
  refine cond_yes hF rfl ?_
  clear b4 hq
  revert hF;refine zrp [3] [1, 2] fun a hF => ?_;refine seq_one ?_;revert hF;refine qe1 fun a hF => ?_;refine seq_one ?_;refine op_panicP rfl rfl rfl rfl hF (fun hF => ?_)
  simp only [then_panic, block_panic, goto_panic]
  refine panic_out hF (Or.inr ⟨?_, rfl, HP1.out.below, HT1.out⟩)
  have := HFU.out
  simp only [List.length_cons, List.length_nil]
  omega
 have hq : ((T.length : Int) == 100000) = false := by simpa using (by omega : ¬ (T.length : Int) = 100000)
 revert hF;refine zrs [1, 4, 4, 4, 4, 4] [0, 3, 10] fun a hF => ?_
 refine cond_no hF rfl ?_
 refine wp_skip ?_
 clear b4 hq
 refine hK _ _ ?_;clear hK
 have hbd := below_d (Below.refl w1.heap.size w1)
 have HPd := Lib.hid (HP1.out.down hbd)
 have HTU : Hid (TUpd PrvT w w1.drew) := HT1.out.trans (TUpd.of_below hbd)
 have HSd : Hid (w1.drew.heap[gs]? = some (.cells #[.int .i64 k, .int .i64 g, .slice none 0 0] 71 (0, 0))) := HS1.out
 clear HP1 HT1 HS1 hbd la c
 refine wp_seq_k (fun K hK => ?_)
 obtain ⟨la, c, hbx, hAM⟩ := add_mem (k := k) (g := g) (gs := gs) HPd.out hT
 have HAM := Lib.hid hAM
 clear hAM
 have b4 := boxed_cell (j := 4) hbx rfl
 have s0 := boxed_cell (j := 0) HSd.out rfl
 have s1 := boxed_cell (j := 1) HSd.out rfl
 have s2 := boxed_cell (j := 2) HSd.out rfl
 have B4 : Hid ((w1.drew.alloc (.cells #[.int .i64 k, .int .i64 g, .slice none 0 0] 71)).cell? ⟨A.wb, 4, none⟩ = some (.slice la T.length c)) := Below.cell_of (Joins.below_alloc1 w1.drew _) b4
 clear hbx
 refine region_any (by kernel_rfl) ?_;generalize w1.drew = wd at *;revert hF;refine zra (fuel := 7) [1, 33, 73, 105] [4, 5, 6, 7, 10] fun a hF => ?_;refine any_two (n := 4) (m := 5) (fuel := 6) (by kernel_rfl) ?_ ?_
 ·
  revert hF;refine qe1 fun a hF => ?_;revert hF;refine zra (fuel := 5) [180] [6, 7, 10] fun a hF => ?_;refine any_one (n := 6) (fuel := 4) (by kernel_rfl) ?_;revert hF;refine qe1 fun a hF => ?_
  clear b4 s0 s1 s2 B4
  have hrc := recs_alloc StepE wd 71 [rawS k g] #[.int .i64 k, .int .i64 g, .slice none 0 0] rfl
  have hba := Joins.below_alloc1 wd (.cells #[.int .i64 k, .int .i64 g, .slice none 0 0] 71)
  obtain ⟨la', c', w2, hAPP, q4, f4, hP2, hT2, r4⟩ := HAM.out _ wd.heap.size hba hrc
  have HP2 := Lib.hid hP2
  have HT2 := Lib.hid hT2
  clear hP2 hT2 hrc hba
  refine any_one (n := 7) (fuel := 3) (by kernel_rfl) ?_;refine op_append rfl rfl rfl rfl rfl hF rfl rfl rfl hAPP (fun a hF => ?_);clear hAPP;revert hF;refine zra (fuel := 1) [265, 297] [10] fun a hF => ?_;refine any_one (n := 10) (fuel := 0) (by kernel_rfl) ?_;revert hF;refine qu2 fun a hF => ?_;refine any_end (by kernel_rfl) ?_;replace hF := hF.kp [0] rfl;refine hK _ _ ?_;clear hK
  clear q4 f4
  generalize w2.setCell ⟨A.wb, 4, none⟩ (.slice la' (T.length + 1) c') = w3 at *
  have hws : IntKind.i64.wrap ((T.length : Nat) : Int) = (T.length : Int) := wrap_in (by omega) (by omega)
  revert hF;refine zrs [1, 4, 4, 4, 4, 4, 2] [4] fun a hF => ?_;refine wp_ret ?_;(try simp only [then_ret, block_ret, goto_ret]);revert hF;refine zq ?_
  exact Or.inl ⟨by simp; omega, rfl, HP2.out, HTU.out.trans HT2.out⟩
 ·
  revert hF;refine qe1 fun a hF => ?_;refine any_two (n := 4) (m := 6) (fuel := 5) (by kernel_rfl) ?_ ?_
  ·
   revert hF;refine qe1 fun a hF => ?_;refine any_one (n := 6) (fuel := 4) (by kernel_rfl) ?_;revert hF;refine qe1 fun a hF => ?_
   clear b4 s0 s1 s2 B4
   have hrc := recs_alloc StepE wd 71 [rawS k g] #[.int .i64 k, .int .i64 g, .slice none 0 0] rfl
   have hba := Joins.below_alloc1 wd (.cells #[.int .i64 k, .int .i64 g, .slice none 0 0] 71)
   obtain ⟨la', c', w2, hAPP, q4, f4, hP2, hT2, r4⟩ := HAM.out _ wd.heap.size hba hrc
   have HP2 := Lib.hid hP2
   have HT2 := Lib.hid hT2
   clear hP2 hT2 hrc hba
   refine any_one (n := 7) (fuel := 3) (by kernel_rfl) ?_;refine op_append rfl rfl rfl rfl rfl hF rfl rfl rfl hAPP (fun a hF => ?_);clear hAPP;revert hF;refine zra (fuel := 1) [265, 297] [10] fun a hF => ?_;refine any_one (n := 10) (fuel := 0) (by kernel_rfl) ?_;revert hF;refine qu2 fun a hF => ?_;refine any_end (by kernel_rfl) ?_;replace hF := hF.kp [0] rfl;refine hK _ _ ?_;clear hK
   clear q4 f4
   generalize w2.setCell ⟨A.wb, 4, none⟩ (.slice la' (T.length + 1) c') = w3 at *
   have hws : IntKind.i64.wrap ((T.length : Nat) : Int) = (T.length : Int) := wrap_in (by omega) (by omega)
   revert hF;refine zrs [1, 4, 4, 4, 4, 4, 2] [4] fun a hF => ?_;refine wp_ret ?_;(try simp only [then_ret, block_ret, goto_ret]);revert hF;refine zq ?_
   exact Or.inl ⟨by simp; omega, rfl, HP2.out, HTU.out.trans HT2.out⟩
  ·
   revert hF;refine qe1 fun a hF => ?_
   have b5 := B4.out
   clear b4 s0 s1 s2 B4
   revert hF;refine zra (fuel := 4) [148] [7, 10] fun a hF => ?_
   have hrc := recs_alloc StepE wd 71 [rawS k g] #[.int .i64 k, .int .i64 g, .slice none 0 0] rfl
   have hba := Joins.below_alloc1 wd (.cells #[.int .i64 k, .int .i64 g, .slice none 0 0] 71)
   obtain ⟨la', c', w2, hAPP, q4, f4, hP2, hT2, r4⟩ := HAM.out _ wd.heap.size hba hrc
   have HP2 := Lib.hid hP2
   have HT2 := Lib.hid hT2
   clear hP2 hT2 hrc hba
   refine any_one (n := 7) (fuel := 3) (by kernel_rfl) ?_;refine op_append rfl rfl rfl rfl rfl hF rfl rfl rfl hAPP (fun a hF => ?_);clear hAPP;revert hF;refine zra (fuel := 1) [265, 297] [10] fun a hF => ?_;refine any_one (n := 10) (fuel := 0) (by kernel_rfl) ?_;revert hF;refine qu2 fun a hF => ?_;refine any_end (by kernel_rfl) ?_;replace hF := hF.kp [0] rfl;refine hK _ _ ?_;clear hK
   clear q4 f4
   generalize w2.setCell ⟨A.wb, 4, none⟩ (.slice la' (T.length + 1) c') = w3 at *
   have hws : IntKind.i64.wrap ((T.length : Nat) : Int) = (T.length : Int) := wrap_in (by omega) (by omega)
   revert hF;refine zrs [1, 4, 4, 4, 4, 4, 2] [4] fun a hF => ?_;refine wp_ret ?_;(try simp only [then_ret, block_ret, goto_ret]);revert hF;refine zq ?_
   exact Or.inl ⟨by simp; omega, rfl, HP2.out, HTU.out.trans HT2.out⟩
end Go.Proofs.YthabgljdndbphaaGreatDoor
