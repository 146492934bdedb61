/- lexer.Lex: the walk. -/
import Derived.Test.YtkdbenoleendcaaGreatDoorQHMB07
import Derived.Test.YtkdbenoleendcaaGreatDoorQHMB08
import Derived.Maps.AppendAt

namespace Go.Proofs.YtkdbenoleendcaaGreatDoor
open Go.RowKit Go.Shelf Go.IntWalk
attribute [local go_sem] Oper.semAt_some

/-- A token in memory: four cells. -/
def TokE : Enc Fnd 4 := ⟨fun x => [.int .i64 x.kind, .string (bs x.text), .int .i64 x.num, .int .i64 x.pos], fun _ => rfl, fun x v hv => by
  simp only [List.mem_cons, List.not_mem_nil, or_false] at hv
  rcases hv with rfl | rfl | rfl | rfl <;> rfl, by decide⟩

/-- What Lex returns. -/
def LexPost (t : List UInt8) (w : World) (e : Ending) (w' : World) : Prop :=
  ∃ (v : Value) (er p : Int) (toks : List Fnd), e = .returned (.tuple #[v, .int .i64 er, .int .i64 p]) ∧ Below w.heap.size w w' ∧ toks.length ≤ 1000 ∧
    (er = 0 → ∃ la c, v = .slice la toks.length c ∧ Recs TokE w' la toks.length toks) ∧ (er ≠ 0 → v = .slice none 0 0) ∧
    (nameS t = true → er = 0 ∧ ∃ x, toks = [x] ∧ x.kind = 1 ∧ x.text = t) ∧ (nameS t = false → er = 0 → ∀ x r, toks = x :: r → ¬ (x.kind = 1 ∧ x.text = t))

/-- Lex's four boxes, made behind the world w. -/
structure LexBoxes (W w : World) (v : Value) (er p : Int) (u : Value) : Prop where
  below : Below w.heap.size w W
  size : w.heap.size + 4 ≤ W.heap.size
  c0 : Boxed W w.heap.size 79 v
  c1 : Boxed W (w.heap.size + 1) 32 (.int .i64 er)
  c2 : Boxed W (w.heap.size + 1 + 1) 3 (.int .i64 p)
  c3 : Boxed W (w.heap.size + 1 + 1 + 1) 79 u

theorem LexBoxes.new (w : World) : LexBoxes (((((w.alloc (.cells #[.slice none 0 0] 79)).alloc (.cells #[.int .i64 0] 32)).alloc (.cells #[.int .i64 0] 3)).alloc (.cells #[.slice none 0 0] 79))) w (.slice none 0 0) 0 0 (.slice none 0 0) := by
  refine ⟨(((Joins.below_alloc1 w _).alloc (by simp) _).alloc (by simp; omega) _).alloc (by simp; omega) _, by simp, ?_, ?_, ?_, ?_⟩
  · exact (((Boxed.new w _ _).alloc _).alloc _).alloc _
  · have := (Boxed.new (w.alloc (.cells #[.slice none 0 0] 79)) 32 (.int .i64 0))
    rw [World.size_alloc] at this
    exact (this.alloc _).alloc _
  · have := (Boxed.new ((w.alloc (.cells #[.slice none 0 0] 79)).alloc (.cells #[.int .i64 0] 32)) 3 (.int .i64 0))
    simp only [World.size_alloc] at this
    exact this.alloc _
  · have := (Boxed.new (((w.alloc (.cells #[.slice none 0 0] 79)).alloc (.cells #[.int .i64 0] 32)).alloc (.cells #[.int .i64 0] 3)) 79 (.slice none 0 0))
    simp only [World.size_alloc] at this
    exact this

theorem boxed_step {W W' : World} {B : Nat} {ty : TypeId} {v : Value} (h : Boxed W B ty v) (hb : Below W.heap.size W W') : Boxed W' B ty v := (hb.block B h.lt).trans h

theorem LexBoxes.step {W W' w : World} {v u : Value} {er p : Int} (h : LexBoxes W w v er p u) (hb : Below W.heap.size W W') : LexBoxes W' w v er p u :=
  ⟨h.below.trans (hb.mono h.below.size), Nat.le_trans h.size hb.size, boxed_step h.c0 hb, boxed_step h.c1 hb, boxed_step h.c2 hb, boxed_step h.c3 hb⟩

/-- The token handed over, in its box. -/
def FndAt (W : World) (b : Nat) (x : Fnd) : Prop := W.heap[b]? = some (.cells #[.int .i64 x.kind, .string (bs x.text), .int .i64 x.num, .int .i64 x.pos, .int .i64 x.err] 93 (0, 0))

theorem FndAt.own {X Y : World} {b : Nat} {x : Fnd} {row : Option Nat} (h : FndAt X b x) (hg : X.grownBy Y row) (hr : ∀ r, row = some r → ∃ o : Obj, X.heap[r]? = some o ∧ o.isCells = false) : FndAt Y b x := by
  refine (hg.block b (lt_of_block h) (fun e => ?_)).trans h
  obtain ⟨o, ho, hc⟩ := hr b e.symm
  rw [show X.heap[b]? = _ from h] at ho
  cases ho; cases hc

section
variable {T C A : Nat} {X Y Z : World}
theorem KeepsTok.refl (X : World) : KeepsTok T C A X X := ⟨Nat.le_refl _, rfl, rfl, rfl, fun _ _ _ _ => rfl⟩
theorem KeepsTok.trans (h : KeepsTok T C A X Y) (k : KeepsTok T C A Y Z) : KeepsTok T C A X Z :=
  ⟨Nat.le_trans h.size k.size, k.text.trans h.text, k.cls.trans h.cls, k.at'.trans h.at', fun b arr fr e => (k.found b arr fr ((h.found b arr fr e).trans e)).trans (h.found b arr fr e)⟩
/-- One block turns, that is none of the iterator's and no token. -/
theorem KeepsTok.grown {row : Option Nat} (hg : X.grownBy Y row) (hT : T < X.heap.size) (hC : C < X.heap.size) (hA : A < X.heap.size) (h1 : row ≠ some T) (h2 : row ≠ some C) (h3 : row ≠ some A)
    (h4 : ∀ b arr fr, row = some b → X.heap[b]? ≠ some (.cells arr 93 fr)) : KeepsTok T C A X Y :=
  ⟨hg.size, hg.block _ hT (fun e => h1 e.symm), hg.block _ hC (fun e => h2 e.symm), hg.block _ hA (fun e => h3 e.symm), fun b arr fr e => hg.block _ (lt_of_block e) (fun e' => h4 b arr fr e'.symm e)⟩
theorem KeepsTok.box {b : Nat} {ty : TypeId} {v : Value} (h : Boxed X b ty v) (hty : ty ≠ 93) (hT : T < X.heap.size) (hC : C < X.heap.size) (hA : A < X.heap.size) (h1 : b < T) (h2 : b < C) (h3 : b < A) (u : Value) : KeepsTok T C A X (X.setCell ⟨b, 0, none⟩ u) :=
  KeepsTok.grown (grownBy_setCell' X b u) hT hC hA (by simp; omega) (by simp; omega) (by simp; omega) (fun b' arr fr e e' => by
    cases e
    rw [show X.heap[b]? = _ from h] at e'
    cases e'
    exact hty rfl)
theorem KeepsTok.turn (W : World) {l : Nat} {o : Obj} (ho : W.heap[l]? = some o) (hc : o.isCells = false) (hT : T < W.heap.size) (hC : C < W.heap.size) (hA : A < W.heap.size) (h1 : l ≠ T) (h2 : l ≠ C) (h3 : l ≠ A) (o' : Obj) : KeepsTok T C A W (W.putObj l o') :=
  KeepsTok.grown (grownBy_putObj' W l o') hT hC hA (by simpa using h1) (by simpa using h2) (by simpa using h3) (fun b' arr fr e e' => by
    cases e
    rw [ho] at e'
    cases e'
    cases hc)
end

/-- Between two rounds. -/
def LexI (w w2 : World) (pre : List Fnd) (W : World) : Prop :=
  (Boxed W w.heap.size 79 (.slice none 0 0) ∧ Boxed W (w.heap.size + 1) 32 (.int .i64 0) ∧ Boxed W (w.heap.size + 1 + 1) 3 (.int .i64 0)) ∧
  (∃ v, Boxed W (w.heap.size + 1 + 1 + 1) 79 v ∧ W.ownsRow w2.heap.size 83 4 v pre.length (flat TokE pre)) ∧ ((∀ x ∈ pre, x.err = 0) ∧ pre.length ≤ 1000) ∧ Below w.heap.size w2 W ∧ w2.heap.size ≤ W.heap.size

/-- A round has left. -/
def LexX (w w2 : World) (c : Code) (pre : List Fnd) (W : World) : Prop :=
  ∃ er p, c = .ret ∧ (Boxed W w.heap.size 79 (.slice none 0 0) ∧ Boxed W (w.heap.size + 1) 32 (.int .i64 er) ∧ Boxed W (w.heap.size + 1 + 1) 3 (.int .i64 p)) ∧ er ≠ 0 ∧ (∃ x ∈ pre, x.err ≠ 0) ∧ Below w.heap.size w2 W

theorem lexI_own (w w2 : World) (h : w.heap.size ≤ w2.heap.size) : OwnFrom w2.heap.size (LexI w w2) := by
  rintro s X Y row ⟨⟨h0, h1, h2⟩, hv, h4, h5, h6⟩ hg hr
  have hr' := fun r e => (hr r e).2
  refine ⟨⟨boxed_own _ _ (fun (_ : Unit) => _) () X Y row h0 hg hr', boxed_own _ _ (fun (_ : Unit) => _) () X Y row h1 hg hr', boxed_own _ _ (fun (_ : Unit) => _) () X Y row h2 hg hr'⟩, ?_, h4, h5.grown hg (by have := h5.size; omega) (fun k e => by have := (hr k e).1; omega), Nat.le_trans h6 hg.size⟩
  obtain ⟨v, h7, h8⟩ := hv
  obtain ⟨v', h7', h8', _⟩ := holdsRow_own w2.heap.size (w.heap.size + 1 + 1 + 1) 79 83 4 (fun (p : List Fnd) => p.length) (fun p => flat TokE p) (fun _ _ => True) s X Y row ⟨v, h7, h8, trivial⟩ hg hr'
  exact ⟨v', h7', h8'⟩

theorem lexX_own (w w2 : World) (h : w.heap.size ≤ w2.heap.size) (c : Code) : OwnFrom w2.heap.size (LexX w w2 c) := by
  rintro s X Y row ⟨er, p, hc, ⟨h0, h1, h2⟩, h3, h4, h5⟩ hg hr
  have hr' := fun r e => (hr r e).2
  exact ⟨er, p, hc, ⟨boxed_own _ _ (fun (_ : Unit) => _) () X Y row h0 hg hr', boxed_own _ _ (fun (_ : Unit) => _) () X Y row h1 hg hr', boxed_own _ _ (fun (_ : Unit) => _) () X Y row h2 hg hr'⟩, h3, h4, h5.grown hg (by have := h5.size; omega) (fun k e => by have := (hr k e).1; omega)⟩

theorem flat_snoc (pre : List Fnd) (x : Fnd) : flat TokE (pre ++ [x]) = flat TokE pre ++ TokE.cells x := by rw [flat_append, flat_single]

theorem flat_new (W : World) (x : Fnd) : ∀ (j : Nat) (u : Value), (TokE.cells x)[j]? = some u → (W.alloc (.cells #[.int .i64 x.kind, .string (bs x.text), .int .i64 x.num, .int .i64 x.pos] 83)).cell? ((⟨W.heap.size, 0, none⟩ : Addr).add j) = some u := by
  intro j u hj
  rw [add_none]
  have hb := World.alloc_heap_new W (.cells #[.int .i64 x.kind, .string (bs x.text), .int .i64 x.num, .int .i64 x.pos] 83)
  rw [Nat.zero_add, cell_of_row _ _ _ _ _ _ hb]
  simpa [TokE] using hj

/-- A token more. -/
theorem lex_append {W w3 w w2 : World} {pre : List Fnd} {x : Fnd} {v v' : Value} {T C A : Nat} {tmp : Obj} (hT : T < w2.heap.size) (hC : C < w2.heap.size) (hA : A < w2.heap.size) (hT4 : w.heap.size + 4 ≤ T) (hC4 : w.heap.size + 4 ≤ C) (hA4 : w.heap.size + 4 ≤ A)
    (hI : LexI w w2 pre W) (hlt : pre.length < 1000) (hx : x.err = 0) (hc3 : Boxed W (w.heap.size + 1 + 1 + 1) 79 v) (hrow : W.ownsRow w2.heap.size 83 4 v pre.length (flat TokE pre))
    (hown : w3.ownsRow w2.heap.size 83 4 v' (pre.length + 1) (flat TokE pre ++ TokE.cells x)) (hg : (W.alloc tmp).grownBy w3 v.ownBlock) :
    Boxed w3 (w.heap.size + 1 + 1 + 1) 79 v ∧ KeepsFrom w2.heap.size W (w3.setCell ⟨w.heap.size + 1 + 1 + 1, 0, none⟩ v') ∧ KeepsTok T C A W (w3.setCell ⟨w.heap.size + 1 + 1 + 1, 0, none⟩ v') ∧ LexI w w2 (pre ++ [x]) (w3.setCell ⟨w.heap.size + 1 + 1 + 1, 0, none⟩ v') := by
  obtain ⟨⟨h0, h1, h2⟩, _, h4, h5, h6⟩ := hI
  have hrf : ∀ r, v.ownBlock = some r → w2.heap.size ≤ r ∧ ∃ cur, W.heap[r]? = some (.cells cur 83 (0, 0)) := by
    intro r hr
    rcases hrow.2 with ⟨rfl, _⟩ | ⟨g, cap, cur, rfl, hb, hgb, _⟩
    · simp [Value.ownBlock] at hr
    · obtain rfl : g = r := by simpa [Value.ownBlock] using hr
      exact ⟨hb, cur, hgb⟩
  have ne : ∀ b, b < w2.heap.size → v.ownBlock ≠ some b := fun b hb e => by have := (hrf b e).1; omega
  have hga : (W.alloc tmp).heap.size = W.heap.size + 1 := by simp
  have kb : ∀ {b ty u}, b < w2.heap.size → Boxed W b ty u → Boxed w3 b ty u := fun hb h => (h.alloc tmp).kept hg (fun e => ne _ hb e.symm)
  have k3 := kb (by omega) hc3
  have other : ∀ {b ty u}, b ≠ w.heap.size + 1 + 1 + 1 → Boxed w3 b ty u → Boxed (w3.setCell ⟨w.heap.size + 1 + 1 + 1, 0, none⟩ v') b ty u := fun hb h => h.other hb _
  have hk1 : KeepsTok T C A W (W.alloc tmp) := KeepsTok.grown (grown_below (Joins.below_alloc1 W tmp) none) (by omega) (by omega) (by omega) (by simp) (by simp) (by simp) (fun _ _ _ e => by cases e)
  have hk2 : KeepsTok T C A (W.alloc tmp) w3 := KeepsTok.grown hg (by omega) (by omega) (by omega) (ne T hT) (ne C hC) (ne A hA) (fun b arr fr e e' => by
    obtain ⟨_, cur, hcur⟩ := hrf b e
    rw [Below.heap_alloc W tmp b (lt_of_block hcur), hcur] at e'
    cases e')
  have hs3 := hg.size
  refine ⟨k3, ?_, (hk1.trans hk2).trans (KeepsTok.box k3 (by decide) (by omega) (by omega) (by omega) (by omega) (by omega) (by omega) v'), ⟨⟨other (by omega) (kb (by omega) h0), other (by omega) (kb (by omega) h1), other (by omega) (kb (by omega) h2)⟩, ⟨v', k3.set v', ?_⟩, ?_, ?_, ?_⟩⟩
  · refine (((KeepsOthers.alloc W tmp).trans (KeepsOthers.of_grownBy hg fun j o ej hj => ?_)).trans (KeepsOthers.setCell _ _ _)).from _
    obtain ⟨_, cur, hcur⟩ := hrf j ej
    rw [Below.heap_alloc W tmp j (lt_of_block hcur), hcur] at hj
    cases hj
    rfl
  · rw [List.length_append, List.length_singleton, flat_snoc]
    refine hown.kept (grownBy_setCell' w3 _ v') (.inr fun e => ?_)
    rcases hown.2 with ⟨rfl, _⟩ | ⟨g, cap, cur, rfl, hb, _⟩
    · simp [Value.ownBlock] at e
    · simp [Value.ownBlock] at e
      omega
  · refine ⟨fun y hy => ?_, by rw [List.length_append, List.length_singleton]; omega⟩
    rcases List.mem_append.mp hy with h | h
    · exact h4.1 y h
    · rw [List.mem_singleton] at h; rw [h]; exact hx
  · have hbw : w.heap.size ≤ W.heap.size := by have := h5.size; omega
    refine (h5.trans (((Below.refl w.heap.size W).alloc (by omega) tmp).grown hg (by omega) fun j ej => ?_)).setCell (p := ⟨w.heap.size + 1 + 1 + 1, 0, none⟩) (by show w.heap.size ≤ w.heap.size + 1 + 1 + 1; omega) v'
    have := (hrf j ej).1
    have := h5.size
    omega
  · rw [World.size_setCell]; omega

theorem lexX_boxes {W : World} {b : Nat} {v u : Value} {e0 p0 : Value} (h0 : Boxed W b 79 v) (h1 : Boxed W (b + 1) 32 e0) (h2 : Boxed W (b + 1 + 1) 3 p0) (er p : Int) :
    Boxed (((W.setCell ⟨b, 0, none⟩ u).setCell ⟨b + 1, 0, none⟩ (.int .i64 er)).setCell ⟨b + 1 + 1, 0, none⟩ (.int .i64 p)) b 79 u ∧
    Boxed (((W.setCell ⟨b, 0, none⟩ u).setCell ⟨b + 1, 0, none⟩ (.int .i64 er)).setCell ⟨b + 1 + 1, 0, none⟩ (.int .i64 p)) (b + 1) 32 (.int .i64 er) ∧
    Boxed (((W.setCell ⟨b, 0, none⟩ u).setCell ⟨b + 1, 0, none⟩ (.int .i64 er)).setCell ⟨b + 1 + 1, 0, none⟩ (.int .i64 p)) (b + 1 + 1) 3 (.int .i64 p) :=
  ⟨((h0.set u).other (by omega) _).other (by omega) _, ((h1.other (by omega) _).set _).other (by omega) _, ((h2.other (by omega) _).other (by omega) _).set _⟩

theorem lex_row {W : World} {n b : Nat} {v u : Value} {k : Nat} {ys : List Value} (h : W.ownsRow n 83 4 v k ys) (hb : b < n) : (W.setCell ⟨b, 0, none⟩ u).ownsRow n 83 4 v k ys := by
  refine h.kept (grownBy_setCell' W b u) (.inr fun e => ?_)
  rcases h.2 with ⟨rfl, _⟩ | ⟨g, cap, cur, rfl, hg, _⟩
  · simp [Value.ownBlock] at e
  · simp [Value.ownBlock] at e
    omega

theorem info_tok : (Tryz.prog.info? 83).map (fun i => (i.zero, i.size, i.bytes)) = some (some (.agg #[.int .i64 0, .string ⟨#[]⟩, .int .i64 0, .int .i64 0]), 4, 40) := by kernel_rfl

theorem iter_stops (T C A n : Nat) (t : List UInt8) (hlen : t.length ≤ 1000) (hn : 3 ≤ n) (w : World) (hT : T < w.heap.size) (hC : C < w.heap.size) (hA : A < w.heap.size) (hL : LexBox w T C A (bs t)) :
    SeqStopsK Fence.wide n Tryz.prog 70 #[.pointer (some ⟨T, 0, none⟩), .pointer (some ⟨A, 0, none⟩)] (fun x => #[fndV x]) (KeepsTok T C A) (All1 t) (Some1 t) t.length w := fun l J Jx W hW hJ _ hY h0 =>
  iter_in l T C A w.heap.size t J Jx hlen n hn hY (fun pre W1 W2 h hg => hJ pre W1 W2 none h hg (fun r e => by cases e)) W hT hC hA hW.size (hL.below hW hT hC hA) h0

set_option maxRecDepth 100000 in
set_option maxHeartbeats 1600000 in
theorem lex_any (t : List UInt8) (hlen : t.length ≤ 1000) (w : World) : Calls Tryz.prog 50 #[.string (bs t)] w (LexPost t w) := by
  refine (callsIn_wide (n := 5)).1 ?_
  refine callsIn_of_wp_marks Tryz.func50 rfl trivial ?_ rfl
  simp only [Tryz.ntmps50, List.size_toArray, List.length_cons, List.length_nil, Nat.reduceAdd, Nat.reduceSub, Array.replicate_succ, Array.replicate_zero, List.push_toArray, List.append_toArray, List.nil_append, List.cons_append]
  have hbs := bs_size t
  refine wpIn_wide.2 ?_
  go_upto_region 4 with fail
  have HBX : Hid (LexBoxes (((((w.alloc (.cells #[.slice none 0 0] 79)).alloc (.cells #[.int .i64 0] 32)).alloc (.cells #[.int .i64 0] 3)).alloc (.cells #[.slice none 0 0] 79))) w (.slice none 0 0) 0 0 (.slice none 0 0)) := LexBoxes.new w
  generalize ((((w.alloc (.cells #[.slice none 0 0] 79)).alloc (.cells #[.int .i64 0] 32)).alloc (.cells #[.int .i64 0] 3)).alloc (.cells #[.slice none 0 0] 79)) = w1 at *
  have hz1 := HBX.out.size
  go_wp2_with fail
  refine (tokens_any (bs t) w1).mono ?_
  rintro e w2 ⟨T, C, A, rfl, hT1, hC1, hA1, hT, hC, hA, hL, hb2⟩
  have HL := Lib.hid hL
  have HB2 := Lib.hid (HBX.out.step hb2)
  clear hL hb2 HBX
  go_wp2_with fail
  have hb0 := HB2.out
  have hz2 : w.heap.size ≤ w2.heap.size := hb0.below.size
  have hsz0 : w.heap.size + 4 ≤ T ∧ w.heap.size + 4 ≤ C ∧ w.heap.size + 4 ≤ A := ⟨by omega, by omega, by omega⟩
  obtain ⟨hT4, hC4, hA4⟩ := hsz0
  refine (wpIn_wide (n := 5)).1 ?_
  refine wpIn_rangeFunc_ownH rfl (by omega) (gf := 70) (lb := #[.pointer (some ⟨T, 0, none⟩), .pointer (some ⟨A, 0, none⟩)]) rfl trivial (enters_of Tryz.func70 (by kernel_rfl) rfl)
    (iter_stops T C A 4 t hlen (by omega) w2 hT hC hA HL.out) (fun h1 h2 => KeepsTok.trans h1 h2) (fun W l o o' hl ho hc _ => KeepsTok.turn W ho hc (by have := lt_of_block ho; omega) (by have := lt_of_block ho; omega) (by have := lt_of_block ho; omega) (by omega) (by omega) (by omega) o') (Below.refl _ _) (fun _ => rfl)
    (LexI w w2) (LexX w w2) (lexI_own w w2 hz2) (fun c => lexX_own w w2 hz2 c)
    ⟨⟨hb0.c0, hb0.c1, hb0.c2⟩, ⟨_, hb0.c3, World.ownsRow_nil _ _ _ _⟩, ⟨by simp, by simp⟩, Below.refl _ _, Nat.le_refl _⟩
    (fun x a' W => ∃ Bx, w2.heap.size ≤ Bx ∧ FndAt W Bx x ∧ a' = { tmps := #[.string (bs t), undef, .pointer (some ⟨w.heap.size, 0, none⟩), .pointer (some ⟨w.heap.size + 1, 0, none⟩), .pointer (some ⟨w.heap.size + 1 + 1, 0, none⟩), .pointer (some ⟨w.heap.size + 1 + 1 + 1, 0, none⟩), .pointer (some ⟨Bx, 0, none⟩), .string (bs t), .int .i64 t.length, .bool (decide (20000 < (t.length : Int))), .string (bs t), .func (.func 70) #[] #[.pointer (some ⟨T, 0, none⟩), .pointer (some ⟨A, 0, none⟩)], fndV x, undef, undef, undef, undef, undef, undef, undef, undef, undef, undef, undef, undef, undef, undef, undef, undef, undef, undef, undef, undef, undef, undef], defers := [] })
    (fun x a' _ X Y row hs hg hr => by obtain ⟨Bx, h1, h2, h3⟩ := hs; exact ⟨Bx, h1, h2.own hg (fun r e => (hr r e).2), h3⟩)
    ?assign ?body ?done ?stop
  case assign =>
    rintro l pre x W K hI hK
    dsimp only [fndV]
    have HK := Lib.hid hK
    clear hK
    gi_wp2
    have hg := grown_below (Joins.below_alloc1 W (.cells #[.int .i64 x.kind, .string (bs x.text), .int .i64 x.num, .int .i64 x.pos, .int .i64 x.err] 93)) none
    exact HK.out _ _ ((KeepsOthers.alloc _ _).from _) (KeepsTok.grown hg (by have := hI.2.2.2.2; omega) (by have := hI.2.2.2.2; omega) (by have := hI.2.2.2.2; omega) (by simp) (by simp) (by simp) (fun _ _ _ e => by cases e))
      (lexI_own w w2 hz2 pre W _ none hI hg (fun r e => by cases e)) ⟨W.heap.size, hI.2.2.2.2, World.alloc_heap_new W _, rfl⟩
  case body =>
    rintro l pre x a' W hl ⟨r, hr⟩ hI ⟨Bx, hBx, hX, rfl⟩ hlt
    clear hr
    have HX := Lib.hid hX
    have HI := Lib.hid hI
    obtain ⟨⟨hc0, hc1, hc2⟩, ⟨v, hc3, hrow⟩, hez, hbl, hsw⟩ := hI
    have x0 := hc0.cell
    have x1 := hc1.cell
    have x2 := hc2.cell
    have x3 := hc3.cell
    have f0 := hc0.frozen
    have f1 := hc1.frozen
    have f2 := hc2.frozen
    have f3 := hc3.frozen
    have y0 : W.cell? ⟨Bx, 0, none⟩ = some (.int .i64 x.kind) := by rw [cell_of_row _ _ _ _ _ _ hX]; rfl
    have y1 : W.cell? ⟨Bx, 1, none⟩ = some (.string (bs x.text)) := by rw [cell_of_row _ _ _ _ _ _ hX]; rfl
    have y2 : W.cell? ⟨Bx, 2, none⟩ = some (.int .i64 x.num) := by rw [cell_of_row _ _ _ _ _ _ hX]; rfl
    have y3 : W.cell? ⟨Bx, 3, none⟩ = some (.int .i64 x.pos) := by rw [cell_of_row _ _ _ _ _ _ hX]; rfl
    have y4 : W.cell? ⟨Bx, 4, none⟩ = some (.int .i64 x.err) := by rw [cell_of_row _ _ _ _ _ _ hX]; rfl
    have HC0 := Lib.hid hc0
    have HC1 := Lib.hid hc1
    have HC2 := Lib.hid hc2
    have HC3 := Lib.hid hc3
    have HRW := Lib.hid hrow
    have HEZ := Lib.hid hez
    have HBL := Lib.hid hbl
    clear hX hc0 hc1 hc2 hc3 hrow hez hbl
    obtain ⟨er, her⟩ : ∃ er, x.err = er := ⟨_, rfl⟩
    have HER := Lib.hid her
    rw [her] at y4
    clear her
    by_cases h0 : er = 0
    · subst h0
      have HRL : Hid (∃ la c, v = .slice la pre.length c) := by
        rcases HRW.out.2 with ⟨rfl, h⟩ | ⟨g, cap, cur, rfl, _⟩
        · exact ⟨none, 0, by rw [h]⟩
        · exact ⟨_, _, rfl⟩
      obtain ⟨la, c, rfl⟩ := HRL.out
      clear HRL
      have h5 : (((pre.length : Nat) : Int) == 5000) = false := by simp; omega
      obtain ⟨i0, hi, hi0, hi1, hi2⟩ := info_parts info_tok
      have hmx : pre.length + 1 ≤ maxLen := by unfold maxLen; omega
      have hby : (pre.length + 1) * 40 ≤ 140737488355328 := by omega
      have hba : w2.heap.size ≤ (W.alloc (.cells #[.int .i64 x.kind, .string (bs x.text), .int .i64 x.num, .int .i64 x.pos] 83)).heap.size := by rw [World.size_alloc]; omega
      gi_wp2_with (gi_at_builtin; refine wpListIn_append_own _ rfl _ _ 79 rfl w2.heap.size 83 i0 _ 4 40 Tryz.underlying79 hi hi0 hi1 hi2 rfl (by decide) _ _ _ rfl (HRW.out.alloc _) ⟨W.heap.size, 0, none⟩ 1 1 (TokE.cells x) rfl rfl (flat_new W x) (TokE.one x) hmx hby hba ?_; intro v' w3 hown' hgrow _; have HAP := Lib.hid (lex_append hT hC hA hT4 hC4 hA4 HI.out (by omega) HER.out HC3.out HRW.out hown' hgrow); obtain ⟨g', cap', rfl⟩ := ownsRow_succ hown'; clear hown' hgrow; have z3 := HAP.out.1.cell; have zf := HAP.out.1.frozen)
      exact HAP.out.2
    · have b0 : (er == 0) = false := by simpa using h0
      have hmx : Tryz.prog.follows .mixedOrders = true := by kernel_rfl
      have HST : Hid (KeepsFrom w2.heap.size W (((W.setCell ⟨w.heap.size, 0, none⟩ (.slice none 0 0)).setCell ⟨w.heap.size + 1, 0, none⟩ (.int .i64 er)).setCell ⟨w.heap.size + 1 + 1, 0, none⟩ (.int .i64 x.pos)).drew ∧ LexX w w2 .ret (pre ++ [x]) (((W.setCell ⟨w.heap.size, 0, none⟩ (.slice none 0 0)).setCell ⟨w.heap.size + 1, 0, none⟩ (.int .i64 er)).setCell ⟨w.heap.size + 1 + 1, 0, none⟩ (.int .i64 x.pos)).drew) := by
        refine ⟨((((KeepsOthers.setCell _ _ _).trans (KeepsOthers.setCell _ _ _)).trans (KeepsOthers.setCell _ _ _)).trans (KeepsOthers.drew _)).from _, er, x.pos, rfl, lexX_boxes HC0.out HC1.out HC2.out er x.pos, h0, ⟨x, by simp, by rw [HER.out]; exact h0⟩, ?_⟩
        exact ((HBL.out.setCell (p := ⟨w.heap.size, 0, none⟩) (Nat.le_refl _) _).setCell (p := ⟨w.heap.size + 1, 0, none⟩) (Nat.le_succ _) _).setCell (p := ⟨w.heap.size + 1 + 1, 0, none⟩) (by show w.heap.size ≤ w.heap.size + 1 + 1; omega) _ |>.drew
      gi_wp2
      gi_region_o
      all_goals gi_wp2
      all_goals exact HST.out
  case done =>
    rintro D xs W hD hS hI hK
    have HK := Lib.hid hK
    have HS := Lib.hid hS
    clear hK hS
    obtain ⟨⟨hc0, hc1, hc2⟩, ⟨v, hc3, hrow⟩, hez, hbl, hsw⟩ := hI
    have x0 := hc0.cell
    have x1 := hc1.cell
    have x2 := hc2.cell
    have x3 := hc3.cell
    have f0 := hc0.frozen
    have f1 := hc1.frozen
    have f2 := hc2.frozen
    have HC0 := Lib.hid hc0
    have HC1 := Lib.hid hc1
    have HC2 := Lib.hid hc2
    have HRW := Lib.hid hrow
    have HEZ := Lib.hid hez
    have HBL := Lib.hid hbl
    clear hc0 hc1 hc2 hc3 hrow hez hbl
    have HRL : Hid (∃ la c, v = .slice la xs.length c) := by
      rcases HRW.out.2 with ⟨rfl, h⟩ | ⟨g, cap, cur, rfl, _⟩
      · exact ⟨none, 0, by rw [h]⟩
      · exact ⟨_, _, rfl⟩
    obtain ⟨la, c, rfl⟩ := HRL.out
    clear HRL
    have HV : Hid (KeepsOthers W (((W.setCell ⟨w.heap.size, 0, none⟩ (.slice la xs.length c)).setCell ⟨w.heap.size + 1, 0, none⟩ (.int .i64 0)).setCell ⟨w.heap.size + 1 + 1, 0, none⟩ (.int .i64 0)) ∧ (Boxed (((W.setCell ⟨w.heap.size, 0, none⟩ (.slice la xs.length c)).setCell ⟨w.heap.size + 1, 0, none⟩ (.int .i64 0)).setCell ⟨w.heap.size + 1 + 1, 0, none⟩ (.int .i64 0)) w.heap.size 79 (.slice la xs.length c) ∧ Boxed (((W.setCell ⟨w.heap.size, 0, none⟩ (.slice la xs.length c)).setCell ⟨w.heap.size + 1, 0, none⟩ (.int .i64 0)).setCell ⟨w.heap.size + 1 + 1, 0, none⟩ (.int .i64 0)) (w.heap.size + 1) 32 (.int .i64 0) ∧ Boxed (((W.setCell ⟨w.heap.size, 0, none⟩ (.slice la xs.length c)).setCell ⟨w.heap.size + 1, 0, none⟩ (.int .i64 0)).setCell ⟨w.heap.size + 1 + 1, 0, none⟩ (.int .i64 0)) (w.heap.size + 1 + 1) 3 (.int .i64 0)) ∧ Below w.heap.size w2 (((W.setCell ⟨w.heap.size, 0, none⟩ (.slice la xs.length c)).setCell ⟨w.heap.size + 1, 0, none⟩ (.int .i64 0)).setCell ⟨w.heap.size + 1 + 1, 0, none⟩ (.int .i64 0)) ∧ (((W.setCell ⟨w.heap.size, 0, none⟩ (.slice la xs.length c)).setCell ⟨w.heap.size + 1, 0, none⟩ (.int .i64 0)).setCell ⟨w.heap.size + 1 + 1, 0, none⟩ (.int .i64 0)).ownsRow w2.heap.size 83 4 (.slice la xs.length c) xs.length (flat TokE xs)) := by
      refine ⟨((KeepsOthers.setCell _ _ _).trans (KeepsOthers.setCell _ _ _)).trans (KeepsOthers.setCell _ _ _), lexX_boxes HC0.out HC1.out HC2.out 0 0, ?_, lex_row (lex_row (lex_row HRW.out (by omega)) (by omega)) (by omega)⟩
      exact ((HBL.out.setCell (p := ⟨w.heap.size, 0, none⟩) (Nat.le_refl _) _).setCell (p := ⟨w.heap.size + 1, 0, none⟩) (Nat.le_succ _) _).setCell (p := ⟨w.heap.size + 1 + 1, 0, none⟩) (by show w.heap.size ≤ w.heap.size + 1 + 1; omega) _
    gi_wp2
    go_wp2_with fail
    generalize (((W.setCell ⟨w.heap.size, 0, none⟩ (.slice la xs.length c)).setCell ⟨w.heap.size + 1, 0, none⟩ (.int .i64 0)).setCell ⟨w.heap.size + 1 + 1, 0, none⟩ (.int .i64 0)) = W4 at *
    obtain ⟨hko, ⟨b0, b1, b2⟩, hb4, hrow4⟩ := HV.out
    have hK4 := hko.same D _ HK.out rfl
    refine ⟨by simp, .inl ⟨_, _, rfl, run_takeDeferred hK4, ?_⟩⟩
    have z0 := cell_kept b0.cell (grownBy_putObj' _ D (.deferred none)) (fun r e => by cases e; exact ⟨_, hK4, rfl⟩)
    have z1 := cell_kept b1.cell (grownBy_putObj' _ D (.deferred none)) (fun r e => by cases e; exact ⟨_, hK4, rfl⟩)
    have z2 := cell_kept b2.cell (grownBy_putObj' _ D (.deferred none)) (fun r e => by cases e; exact ⟨_, hK4, rfl⟩)
    obtain ⟨la', c', e', ho⟩ := OwnRecs.of_row (ownsRow_putObj hrow4 (.deferred none) hK4 rfl)
    refine ⟨.tuple #[.slice la xs.length c, .int .i64 0, .int .i64 0], ?_, .slice la xs.length c, 0, 0, xs, rfl, (hb0.below.trans hb4).trans (belowK_b (w := w) (Nat.le_refl _) _ D _ _ (by omega) hK4 rfl rfl), HEZ.out.2, fun _ => ⟨la', c', e', ho.recs⟩, fun h => absurd rfl h, fun hn => ⟨rfl, ?_⟩, fun hf _ x r e hx => ?_⟩
    · simp [results, Tryz.f50, go_sem, z0, z1, z2]
    · rcases HS.out.1.1 hn with h | ⟨x, h1, h2, h3, _⟩
      · exact absurd h (HS.out.2 hn)
      · exact ⟨x, h1, h2, h3⟩
    · exact HS.out.1.2 hf x r e ⟨hx.1, hx.2, HEZ.out.1 x (by rw [e]; simp)⟩
  case stop =>
    rintro D c pre W hD hS ⟨er, p, rfl, ⟨hc0, hc1, hc2⟩, he, hex, hbl⟩ hK
    gi_wp2
    refine ⟨by simp, .inl ⟨_, _, rfl, run_takeDeferred hK, ?_⟩⟩
    have z0 := cell_kept hc0.cell (grownBy_putObj' _ D (.deferred none)) (fun r e => by cases e; exact ⟨_, hK, rfl⟩)
    have z1 := cell_kept hc1.cell (grownBy_putObj' _ D (.deferred none)) (fun r e => by cases e; exact ⟨_, hK, rfl⟩)
    have z2 := cell_kept hc2.cell (grownBy_putObj' _ D (.deferred none)) (fun r e => by cases e; exact ⟨_, hK, rfl⟩)
    refine ⟨.tuple #[.slice none 0 0, .int .i64 er, .int .i64 p], ?_, .slice none 0 0, er, p, [], rfl, (hb0.below.trans hbl).trans (belowK_b (w := w) (Nat.le_refl _) _ D _ _ (by omega) hK rfl rfl), by simp, fun h => absurd h he, fun _ => rfl, fun hn => ?_, fun _ h => absurd h he⟩
    · simp [results, Tryz.f50, go_sem, z0, z1, z2]
    · obtain ⟨x, hx, hxe⟩ := hex
      rcases hS.1 hn with h | ⟨y, rfl, h2, h3, h4⟩
      · rw [h] at hx; simp at hx
      · rw [List.mem_singleton] at hx
        rw [hx] at hxe
        exact absurd h4 hxe
end Go.Proofs.YtkdbenoleendcaaGreatDoor
