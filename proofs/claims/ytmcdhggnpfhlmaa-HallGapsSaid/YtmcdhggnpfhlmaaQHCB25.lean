/- hall: foyerlaw10.less; walks over frames: a drawn region whose reads go ahead of its effects, as long as a predicate on the world is kept; hall: places: maps from numbers to numbers; a cell of an own list is stored into. -/
import Derived.Test.YtmcdhggnpfhlmaaQHCB01
import Derived.Test.YtmcdhggnpfhlmaaQHCB17
import Derived.Test.YtmcdhggnpfhlmaaQHCB21
import Derived.Test.YtmcdhggnpfhlmaaQHCB24

namespace Go.Proofs.Ytmcdhggnpfhlmaa
open Go.RowKit Go.IntWalk
set_option linter.unusedSimpArgs false
set_option linter.unusedVariables false

/-- The order of places. -/
def lessP (a b : PlaceR) : Bool :=
  if a.level ≠ b.level then decide (a.level < b.level)
  else if a.block ≠ b.block then decide (a.block < b.block)
  else if a.row ≠ b.row then decide (a.row < b.row)
  else decide (a.seat < b.seat)
def PlcIn (w : World) (g : Nat) (x : PlaceR) : Prop := w.heap[g]? = some (.cells #[.int .i64 x.kind, .int .i64 x.level, .int .i64 x.block, .int .i64 x.row, .int .i64 x.seat, .int .i64 x.x, .int .i64 x.y, .int .i64 x.view, .int .i64 x.wth] 35 (0, 0))
theorem PlcIn.cells {w : World} {g : Nat} {x : PlaceR} (h : PlcIn w g x) : w.cell? ⟨g, 0, none⟩ = some (.int .i64 x.kind) ∧ w.cell? ⟨g, 1, none⟩ = some (.int .i64 x.level) ∧ w.cell? ⟨g, 2, none⟩ = some (.int .i64 x.block) ∧ w.cell? ⟨g, 3, none⟩ = some (.int .i64 x.row) ∧ w.cell? ⟨g, 4, none⟩ = some (.int .i64 x.seat) ∧ w.cell? ⟨g, 5, none⟩ = some (.int .i64 x.x) ∧ w.cell? ⟨g, 6, none⟩ = some (.int .i64 x.y) ∧ w.cell? ⟨g, 7, none⟩ = some (.int .i64 x.view) ∧ w.cell? ⟨g, 8, none⟩ = some (.int .i64 x.wth) :=
  ⟨boxed_cell (j := 0) h rfl, boxed_cell (j := 1) h rfl, boxed_cell (j := 2) h rfl, boxed_cell (j := 3) h rfl, boxed_cell (j := 4) h rfl, boxed_cell (j := 5) h rfl, boxed_cell (j := 6) h rfl, boxed_cell (j := 7) h rfl, boxed_cell (j := 8) h rfl⟩
theorem PlcIn.down {w w' : World} {g : Nat} {x : PlaceR} (h : PlcIn w g x) (hb : Below w.heap.size w w') : PlcIn w' g x := (hb.block g (lt_of_block h)).trans h

set_option maxRecDepth 100000 in
set_option maxHeartbeats 8000000 in
theorem less_any (w : World) (pa pb : PlaceR) :
    Calls Try.prog 12 #[.agg #[.int .i64 pa.kind, .int .i64 pa.level, .int .i64 pa.block, .int .i64 pa.row, .int .i64 pa.seat, .int .i64 pa.x, .int .i64 pa.y, .int .i64 pa.view, .int .i64 pa.wth], .agg #[.int .i64 pb.kind, .int .i64 pb.level, .int .i64 pb.block, .int .i64 pb.row, .int .i64 pb.seat, .int .i64 pb.x, .int .i64 pb.y, .int .i64 pb.view, .int .i64 pb.wth]] w fun e w' => e = .returned (.bool (lessP pa pb)) ∧ Below w.heap.size w w' := by
  refine enter_fr (N := 40) [.agg #[.int .i64 pa.kind, .int .i64 pa.level, .int .i64 pa.block, .int .i64 pa.row, .int .i64 pa.seat, .int .i64 pa.x, .int .i64 pa.y, .int .i64 pa.view, .int .i64 pa.wth], .agg #[.int .i64 pb.kind, .int .i64 pb.level, .int .i64 pb.block, .int .i64 pb.row, .int .i64 pb.seat, .int .i64 pb.x, .int .i64 pb.y, .int .i64 pb.view, .int .i64 pb.wth]] (Try.func12) rfl Try.ntmps12 (by rfl) (fun a hF => ?_);replace hF := hF.kp [0, 1] rfl;refine wp_seq_k (fun K hK => ?_);refine region_seq (l := [0, 1, 2]) (by kernel_rfl) ?_;refine seq_one ?_;refine ze1 0 rfl rfl rfl hF rfl rfl ?_;clear hF;refine fun a hF => ?_;refine seq_one ?_;refine ze1 1 rfl rfl rfl hF rfl rfl ?_;clear hF;refine fun a hF => ?_
  have HB1 := Lib.hid (Joins.below_alloc1 w (.cells #[.int .i64 pa.kind, .int .i64 pa.level, .int .i64 pa.block, .int .i64 pa.row, .int .i64 pa.seat, .int .i64 pa.x, .int .i64 pa.y, .int .i64 pa.view, .int .i64 pa.wth] 35))
  have HX1 : Hid (PlcIn (w.alloc (.cells #[.int .i64 pa.kind, .int .i64 pa.level, .int .i64 pa.block, .int .i64 pa.row, .int .i64 pa.seat, .int .i64 pa.x, .int .i64 pa.y, .int .i64 pa.view, .int .i64 pa.wth] 35)) w.heap.size pa) := World.alloc_heap_new w _
  have hs1 : (w.alloc (.cells #[.int .i64 pa.kind, .int .i64 pa.level, .int .i64 pa.block, .int .i64 pa.row, .int .i64 pa.seat, .int .i64 pa.x, .int .i64 pa.y, .int .i64 pa.view, .int .i64 pa.wth] 35)).heap.size = w.heap.size + 1 := by simp only [World.alloc, Array.size_push]
  generalize w.alloc (.cells #[.int .i64 pa.kind, .int .i64 pa.level, .int .i64 pa.block, .int .i64 pa.row, .int .i64 pa.seat, .int .i64 pa.x, .int .i64 pa.y, .int .i64 pa.view, .int .i64 pa.wth] 35) = w1 at *
  refine seq_ck [2] [] hF fun C hC => ?_;clear hF;refine za rfl rfl rfl ?_;refine hC _ (fun a hF => ?_);clear hC C;refine seq_end ?_;replace hF := hF.kp [2, 3] rfl
  have HB2 := Lib.hid (Joins.below_alloc1 w1 (.cells #[.int .i64 pb.kind, .int .i64 pb.level, .int .i64 pb.block, .int .i64 pb.row, .int .i64 pb.seat, .int .i64 pb.x, .int .i64 pb.y, .int .i64 pb.view, .int .i64 pb.wth] 35))
  have HX2 : Hid (PlcIn (w1.alloc (.cells #[.int .i64 pb.kind, .int .i64 pb.level, .int .i64 pb.block, .int .i64 pb.row, .int .i64 pb.seat, .int .i64 pb.x, .int .i64 pb.y, .int .i64 pb.view, .int .i64 pb.wth] 35)) w1.heap.size pb) := World.alloc_heap_new w1 _
  rw [hs1] at HX2
  generalize w1.alloc (.cells #[.int .i64 pb.kind, .int .i64 pb.level, .int .i64 pb.block, .int .i64 pb.row, .int .i64 pb.seat, .int .i64 pb.x, .int .i64 pb.y, .int .i64 pb.view, .int .i64 pb.wth] 35) = w2 at *
  refine hK _ _ ?_;clear hK;(try clear K)
  have HBB : Hid (Below w.heap.size w w2) := HB1.out.trans (HB2.out.mono HB1.out.size)
  obtain ⟨_, d1, d2, d3, d4, _, _, _, _⟩ := (HX1.out.down HB2.out).cells
  obtain ⟨_, e1, e2, e3, e4, _, _, _, _⟩ := HX2.out.cells
  clear HX1 HX2 HB1 HB2 hs1
  by_cases h1 : pa.level = pb.level
  rotate_left
  · have hb1 : (pa.level != pb.level) = true := by simp [h1]
    have HE : Hid (lessP pa pb = decide (pa.level < pb.level)) := by simp [Hid, lessP, h1]
    clear h1
    refine wp_seq_k (fun K hK => ?_);refine wp_seq_k (fun K hK => ?_);refine region_sk [0, 1, 2, 3, 4] [] hF fun C hC => ?_;clear hF;refine zs1 2 rfl rfl ?_;refine zs1 5 rfl rfl ?_;refine zs1 3 rfl rfl ?_;refine zs1 7 rfl rfl ?_;refine zs2 6 8 rfl rfl rfl ?_;refine hC _ (fun a hF => ?_);clear hC C;refine seq_end ?_;replace hF := hF.kp [2, 3, 9] rfl;refine hK _ _ ?_;clear hK;(try clear K)
    refine cond_yes hF rfl ?_
    refine wp_seq_k (fun K hK => ?_);refine region_sk [0, 1, 2, 3, 4, 5] [] hF fun C hC => ?_;clear hF;refine zs1 2 rfl rfl ?_;refine zs1 10 rfl rfl ?_;refine zs1 3 rfl rfl ?_;refine zs1 12 rfl rfl ?_;refine zs2 11 13 rfl rfl rfl ?_;refine za rfl rfl rfl ?_;refine hC _ (fun a hF => ?_);clear hC C;refine seq_end ?_;replace hF := hF.kp [4] rfl;refine hK _ _ ?_;clear hK;(try clear K);refine wp_ret ?_;(try simp only [then_ret, block_ret, goto_ret]);refine ret_fr (fn := Try.f12) (rs := [.tmp 4]) rfl [_] hF ⟨rfl, trivial⟩ ?_
    exact ⟨by rw [HE.out]; rfl, HBB.out⟩
  have hb1 : (pa.level != pb.level) = false := by simp [h1]
  refine wp_seq_k (fun K hK => ?_);refine wp_seq_k (fun K hK => ?_);refine region_sk [0, 1, 2, 3, 4] [] hF fun C hC => ?_;clear hF;refine zs1 2 rfl rfl ?_;refine zs1 5 rfl rfl ?_;refine zs1 3 rfl rfl ?_;refine zs1 7 rfl rfl ?_;refine zs2 6 8 rfl rfl rfl ?_;refine hC _ (fun a hF => ?_);clear hC C;refine seq_end ?_;replace hF := hF.kp [2, 3, 9] rfl;refine hK _ _ ?_;clear hK;(try clear K)
  refine cond_no hF rfl ?_
  refine wp_skip ?_
  refine hK _ _ ?_;clear hK;(try clear K)
  by_cases h2 : pa.block = pb.block
  rotate_left
  · have hb2 : (pa.block != pb.block) = true := by simp [h2]
    have HE : Hid (lessP pa pb = decide (pa.block < pb.block)) := by simp [Hid, lessP, h1, h2]
    clear h2
    refine wp_seq_k (fun K hK => ?_);refine wp_seq_k (fun K hK => ?_);refine region_sk [0, 1, 2, 3, 4] [] hF fun C hC => ?_;clear hF;refine zs1 2 rfl rfl ?_;refine zs1 15 rfl rfl ?_;refine zs1 3 rfl rfl ?_;refine zs1 17 rfl rfl ?_;refine zs2 16 18 rfl rfl rfl ?_;refine hC _ (fun a hF => ?_);clear hC C;refine seq_end ?_;replace hF := hF.kp [2, 3, 19] rfl;refine hK _ _ ?_;clear hK;(try clear K)
    refine cond_yes hF rfl ?_
    refine wp_seq_k (fun K hK => ?_);refine region_sk [0, 1, 2, 3, 4, 5] [] hF fun C hC => ?_;clear hF;refine zs1 2 rfl rfl ?_;refine zs1 20 rfl rfl ?_;refine zs1 3 rfl rfl ?_;refine zs1 22 rfl rfl ?_;refine zs2 21 23 rfl rfl rfl ?_;refine za rfl rfl rfl ?_;refine hC _ (fun a hF => ?_);clear hC C;refine seq_end ?_;replace hF := hF.kp [4] rfl;refine hK _ _ ?_;clear hK;(try clear K);refine wp_ret ?_;(try simp only [then_ret, block_ret, goto_ret]);refine ret_fr (fn := Try.f12) (rs := [.tmp 4]) rfl [_] hF ⟨rfl, trivial⟩ ?_
    exact ⟨by rw [HE.out]; rfl, HBB.out⟩
  have hb2 : (pa.block != pb.block) = false := by simp [h2]
  refine wp_seq_k (fun K hK => ?_);refine wp_seq_k (fun K hK => ?_);refine region_sk [0, 1, 2, 3, 4] [] hF fun C hC => ?_;clear hF;refine zs1 2 rfl rfl ?_;refine zs1 15 rfl rfl ?_;refine zs1 3 rfl rfl ?_;refine zs1 17 rfl rfl ?_;refine zs2 16 18 rfl rfl rfl ?_;refine hC _ (fun a hF => ?_);clear hC C;refine seq_end ?_;replace hF := hF.kp [2, 3, 19] rfl;refine hK _ _ ?_;clear hK;(try clear K)
  refine cond_no hF rfl ?_
  refine wp_skip ?_
  refine hK _ _ ?_;clear hK;(try clear K)
  by_cases h3 : pa.row = pb.row
  rotate_left
  · have hb3 : (pa.row != pb.row) = true := by simp [h3]
    have HE : Hid (lessP pa pb = decide (pa.row < pb.row)) := by simp [Hid, lessP, h1, h2, h3]
    clear h3
    refine wp_seq_k (fun K hK => ?_);refine wp_seq_k (fun K hK => ?_);refine region_sk [0, 1, 2, 3, 4] [] hF fun C hC => ?_;clear hF;refine zs1 2 rfl rfl ?_;refine zs1 25 rfl rfl ?_;refine zs1 3 rfl rfl ?_;refine zs1 27 rfl rfl ?_;refine zs2 26 28 rfl rfl rfl ?_;refine hC _ (fun a hF => ?_);clear hC C;refine seq_end ?_;replace hF := hF.kp [2, 3, 29] rfl;refine hK _ _ ?_;clear hK;(try clear K)
    refine cond_yes hF rfl ?_
    refine wp_seq_k (fun K hK => ?_);refine region_sk [0, 1, 2, 3, 4, 5] [] hF fun C hC => ?_;clear hF;refine zs1 2 rfl rfl ?_;refine zs1 30 rfl rfl ?_;refine zs1 3 rfl rfl ?_;refine zs1 32 rfl rfl ?_;refine zs2 31 33 rfl rfl rfl ?_;refine za rfl rfl rfl ?_;refine hC _ (fun a hF => ?_);clear hC C;refine seq_end ?_;replace hF := hF.kp [4] rfl;refine hK _ _ ?_;clear hK;(try clear K);refine wp_ret ?_;(try simp only [then_ret, block_ret, goto_ret]);refine ret_fr (fn := Try.f12) (rs := [.tmp 4]) rfl [_] hF ⟨rfl, trivial⟩ ?_
    exact ⟨by rw [HE.out]; rfl, HBB.out⟩
  have hb3 : (pa.row != pb.row) = false := by simp [h3]
  refine wp_seq_k (fun K hK => ?_);refine wp_seq_k (fun K hK => ?_);refine region_sk [0, 1, 2, 3, 4] [] hF fun C hC => ?_;clear hF;refine zs1 2 rfl rfl ?_;refine zs1 25 rfl rfl ?_;refine zs1 3 rfl rfl ?_;refine zs1 27 rfl rfl ?_;refine zs2 26 28 rfl rfl rfl ?_;refine hC _ (fun a hF => ?_);clear hC C;refine seq_end ?_;replace hF := hF.kp [2, 3, 29] rfl;refine hK _ _ ?_;clear hK;(try clear K)
  refine cond_no hF rfl ?_
  refine wp_skip ?_
  refine hK _ _ ?_;clear hK;(try clear K)
  have HE : Hid (lessP pa pb = decide (pa.seat < pb.seat)) := by simp [Hid, lessP, h1, h2, h3]
  clear h1 h2 h3
  refine wp_seq_k (fun K hK => ?_);refine region_sk [0, 1, 2, 3, 4, 5] [] hF fun C hC => ?_;clear hF;refine zs1 2 rfl rfl ?_;refine zs1 35 rfl rfl ?_;refine zs1 3 rfl rfl ?_;refine zs1 37 rfl rfl ?_;refine zs2 36 38 rfl rfl rfl ?_;refine za rfl rfl rfl ?_;refine hC _ (fun a hF => ?_);clear hC C;refine seq_end ?_;replace hF := hF.kp [4] rfl;refine hK _ _ ?_;clear hK;(try clear K);refine wp_ret ?_;(try simp only [then_ret, block_ret, goto_ret]);refine ret_fr (fn := Try.f12) (rs := [.tmp 4]) rfl [_] hF ⟨rfl, trivial⟩ ?_
  exact ⟨by rw [HE.out]; rfl, HBB.out⟩
end Go.Proofs.Ytmcdhggnpfhlmaa

namespace Go.Proofs.Ytmcdhggnpfhlmaa
open Go.RowKit

/-- The plan may be followed. -/
def planH (md : Region.Mode) (ops : Array Oper) : List Nat → Array Bool → Bool
  | [], _ => true
  | n :: r, listed => Region.free md ops listed n && ((Region.ready md ops listed).contains n && planH md ops r (listed.setIfInBounds n true))
def afterH : List Nat → Array Bool → Array Bool
  | [], listed => listed
  | n :: r, listed => afterH r (listed.setIfInBounds n true)

/-- What is taken, each in its turn, in whatever world with S. -/
def ChainH (P : Program) (N : Nat) (ds : List Deferred) (S : World → Prop) (ops : Array Oper) (K : List (Nat × Value) → Prop) : List Nat → List (Nat × Value) → Prop
  | [], e => K e
  | n :: r, e => ∃ o v, ops[n]? = some o ∧ dstB N o.dst = true ∧
    ((wantedF ops e o.guard = some true ∧ ∀ a, FrF N ds e a → ∀ w', S w' → (execOp a.eval o).run P w' = .ok (.value v) w') ∨ (wantedF ops e o.guard = some false ∧ v = undef)) ∧
    ChainH P N ds S ops K r (consD o.dst v e)

section
variable {P : Program} {ops : Array Oper} {Q : Exit → Act → World → Prop} {md : Region.Mode} {N : Nat} {ds : List Deferred} {e : List (Nat × Value)} {w : World} {a : Act} {KC : List (Nat × Value) → Prop} {S : World → Prop}

theorem ChainH.step {n : Nat} {r : List Nat} {o : Oper} {v : Value} {d : Nat} (ho : ops[n]? = some o) (hd : o.dst = some d) (hN : Nat.blt d N = true) (hw : wantedF ops e o.guard = some true)
    (hv : ∀ a, FrF N ds e a → ∀ w', S w' → (execOp a.eval o).run P w' = .ok (.value v) w') (h : ChainH P N ds S ops KC r ((d, v) :: e)) : ChainH P N ds S ops KC (n :: r) e :=
  ⟨o, v, ho, by rw [hd]; simpa [dstB, Nat.blt_eq] using hN, Or.inl ⟨hw, hv⟩, by rw [hd]; exact h⟩

/-- Whatever order is picked from here on; S is kept. -/
abbrev wpAnyS (P : Program) (md : Region.Mode) (ops : Array Oper) (Q : Exit → Act → World → Prop) (S : World → Prop) : Nat → Array Bool → Act → World → Prop := wpAnyM P md ops Q S []

theorem held_run {fuel : Nat} (hs : Region.noSelect ops = true) (hQ : ∀ c a d v w, Q (.panic c) (Act.put a d v) w → Q (.panic c) a w) (hS : S w) :
    ∀ (plan : List Nat) (listed : Array Bool) (e : List (Nat × Value)) (a : Act), planH md ops plan listed = true → FrF N ds e a →
      ChainH P N ds S ops (fun e' => ∀ a', FrF N ds e' a' → wpAnyS P md ops Q S fuel (afterH plan listed) a' w) plan e → wpAnyS P md ops Q S (fuel + plan.length) listed a w
  | [], _, _, _, _, hF, h => h _ hF
  | n :: r, listed, e, a, hp, hF, ⟨o, v, ho, hdst, hy, h⟩ => by
    simp only [planH, Bool.and_eq_true] at hp
    obtain ⟨h1, h2, h4⟩ := hp
    have hrest := held_run hs hQ hS r (listed.setIfInBounds n true) _ _ h4 (hF.put o.dst v hdst) h
    have hr : n ∈ Region.ready md ops listed := by simpa using h2
    refine wpAnyM_first (C := S) (fun _ => False) ho (by simp) (Region.noSelect_spec hs) (fun c a w => hQ c a o.dst v w) (fun _ h => h.elim) (fun _ _ h => by simp at h) (fun _ _ _ _ _ h1 h2 => h1 h2) _ listed a w (Region.free_spec ho h1) (fun _ h => h.elim) hr ?_ hS hrest
    rcases hy with ⟨hw, hv⟩ | ⟨hw, rfl⟩
    · exact Or.inl ⟨hF.wanted hw, fun w' hw' => hv a hF w' hw'⟩
    · exact Or.inr ⟨hF.wanted hw, rfl⟩

/-- Reads of a region that draws go ahead. -/
theorem held_chain {fuel : Nat} (S : World → Prop) (plan : List Nat) {fuel' : Nat} {listed : Array Bool} (hf : fuel' = fuel + plan.length) (hs : Region.noSelect ops = true) (hp : planH md ops plan listed = true) (hF : FrF N ds e a)
    (hQ : ∀ c a d v w, Q (.panic c) (Act.put a d v) w → Q (.panic c) a w) (hS : S w)
    (h : ∀ K : List (Nat × Value) → Prop, (∀ e', (∀ a', FrF N ds e' a' → wpAnyS P md ops Q S fuel (afterH plan listed) a' w) → K e') → ChainH P N ds S ops K plan e) : wpAny P md ops Q fuel' listed a w := by
  subst hf
  exact wpAny_of_M _ _ _ _ (held_run hs hQ hS plan listed e a hp hF (h _ fun _ hK => hK))

/-- .. and so behind an effect. -/
theorem held_go {fuel : Nat} (plan : List Nat) {fuel' : Nat} {listed : Array Bool} (hf : fuel' = fuel + plan.length) (hs : Region.noSelect ops = true) (hp : planH md ops plan listed = true) (hF : FrF N ds e a)
    (hQ : ∀ c a d v w, Q (.panic c) (Act.put a d v) w → Q (.panic c) a w) (hS : S w)
    (h : ∀ K : List (Nat × Value) → Prop, (∀ e', (∀ a', FrF N ds e' a' → wpAnyS P md ops Q S fuel (afterH plan listed) a' w) → K e') → ChainH P N ds S ops K plan e) : wpAnyS P md ops Q S fuel' listed a w := by
  subst hf
  exact held_run hs hQ hS plan listed e a hp hF (h _ fun _ hK => hK)

theorem held_step {n fuel : Nat} {listed : Array Bool} (h : wpOp P ops Q n (fun a' w' => (S w → S w') ∧ wpAnyS P md ops Q S fuel (listed.setIfInBounds n true) a' w') a w) :
    wpOp P ops Q n (fun a' w' => (List.contains ([] : List Nat) n = true → wpAny P md ops Q fuel (listed.setIfInBounds n true) a' w') ∧ (List.contains ([] : List Nat) n = false → (S w → S w') ∧ wpAnyM P md ops Q S [] fuel (listed.setIfInBounds n true) a' w')) a w :=
  wpOp_mono (fun _ _ h => ⟨fun hc => by simp at hc, fun _ => h⟩) h
theorem held_one {n fuel : Nat} {listed : Array Bool} (hr : Region.ready md ops listed = [n]) (h : wpOp P ops Q n (fun a' w' => (S w → S w') ∧ wpAnyS P md ops Q S fuel (listed.setIfInBounds n true) a' w') a w) : wpAnyS P md ops Q S (fuel + 1) listed a w :=
  ⟨fun e => (by rw [hr] at e; cases e), fun i hi => by
    rw [hr] at hi
    simp only [List.mem_singleton] at hi
    subst hi
    exact held_step h⟩
theorem held_two {n m fuel : Nat} {listed : Array Bool} (hr : Region.ready md ops listed = [n, m]) (h1 : wpOp P ops Q n (fun a' w' => (S w → S w') ∧ wpAnyS P md ops Q S fuel (listed.setIfInBounds n true) a' w') a w)
    (h2 : wpOp P ops Q m (fun a' w' => (S w → S w') ∧ wpAnyS P md ops Q S fuel (listed.setIfInBounds m true) a' w') a w) : wpAnyS P md ops Q S (fuel + 1) listed a w :=
  ⟨fun e => (by rw [hr] at e; cases e), fun i hi => by
    rw [hr] at hi
    simp only [List.mem_cons, List.not_mem_nil, or_false] at hi
    rcases hi with rfl | rfl
    · exact held_step h1
    · exact held_step h2⟩
theorem held_end {fuel : Nat} {listed : Array Bool} (hr : Region.ready md ops listed = []) (h : Q .normal a w) : wpAnyS P md ops Q S fuel listed a w := by
  cases fuel with
  | zero => exact ⟨hr, h⟩
  | succ n => exact ⟨fun _ => h, fun i hi => (by rw [hr] at hi; cases hi)⟩

/-- A store whose run is known. -/
theorem op_storev {n : Nat} {KA : Act → World → Prop} {o : Oper} {w' : World} {ty : TypeId} {x y : Operand} {g : Nat} {v : Value} (ho : ops[n]? = some o) (hd : o.dst = none) (hF : FrF N ds e a) (hw : wantedF ops e o.guard = some true) (hop : o.op = .store ty x y)
    (hx : valF e x = some (.pointer (some ⟨g, 0, none⟩))) (hy : valF e y = some v) (hr : (storeVar ty ⟨g, 0, none⟩ v).run P w = .ok () w') (h : ∀ a', FrF N ds e a' → KA a' w') : wpOp P ops Q n KA a w :=
  op_unit ho hd hF hw (fun a hF => by
    unfold execOp
    simp only [hop, hF.eval hx, hF.eval hy, Instr.storeAt, Instr.sureAddr, Sem.run_bind, Sem.run_pure, Result.andThen_ok, hr]) h
end
end Go.Proofs.Ytmcdhggnpfhlmaa

namespace Go.Proofs.Ytmcdhggnpfhlmaa
open Go.RowKit Go.IntWalk Go.Maps Go.WideMaps
set_option linter.unusedSimpArgs false
set_option linter.unusedVariables false

/-- A map of numbers, of the call's own, with at most n entries. -/
def IMap (w : World) (M n : Nat) (f : Int → Int) : Prop := ∃ E : List EntT, AscV E ∧ w.ownsMap Try.prog 3 RV M E.length (mapV E) ∧ E.length ≤ n ∧ ∀ k, (lookV E k).getD (.int .i64 0) = .int .i64 (f k)

theorem IMap.made (w : World) : IMap (w.alloc (.map #[] 0)) w.heap.size 0 (fun _ => 0) := ⟨[], List.Pairwise.nil, World.ownsMap_made _ _ _ _, Nat.le_refl _, fun k => rfl⟩
theorem IMap.heap {w w' : World} {M n : Nat} {f : Int → Int} (h : IMap w M n f) (e : w'.heap[M]? = w.heap[M]?) : IMap w' M n f :=
  let ⟨E, a, b, c, d⟩ := h; ⟨E, a, ownsMap_heap b e, c, d⟩
theorem IMap.blk {w : World} {M n : Nat} {f : Int → Int} (h : IMap w M n f) : ∃ es clock, w.heap[M]? = some (.map es clock) := let ⟨_, _, b, _⟩ := h; ownsMap_blk b
theorem IMap.down {w w' : World} {M n : Nat} {f : Int → Int} (h : IMap w M n f) (hb : Below w.heap.size w w') : IMap w' M n f := h.heap (by
  obtain ⟨es, c, e⟩ := h.blk
  exact hb.block M (lt_of_block e))
theorem IMap.look {w : World} {M n : Nat} {f : Int → Int} {k : Int} (h : IMap w M n f) (hk : (Lit.int .i64 k).wf = true) : (Instr.lookup 109 (.map (some M)) (.int .i64 k) false).run Try.prog w = .ok (.int .i64 (f k)) w := by
  obtain ⟨E, _, b, _, d⟩ := h
  rw [lookV_no Try.underlying109 (z := .int .i64 0) (by kernel_rfl) b hk, d k]
theorem IMap.set {w : World} {M n : Nat} {f : Int → Int} {k : Int} (h : IMap w M n f) (hk : (Lit.int .i64 k).wf = true) (hn : n ≤ 1000000) (y : Int) : ∃ w', (Instr.mapUpdate 109 (.map (some M)) (.int .i64 k) (.int .i64 y)).run Try.prog w = .ok () w' ∧ IMap w' M (n + 1) (fun j => if j = k then y else f j) ∧ w.grownBy w' (some M) := by
  obtain ⟨E, a, b, c, d⟩ := h
  obtain ⟨w', h1, h2, h3⟩ := b.update lawI Try.underlying109 (by unfold maxLen; omega) (keyOf_int_mk Try.underlying3 hk) (val := .int .i64 y) (d := .held (.int .i64 y)) (ps := []) rfl
  rw [mapV_put a] at h2
  have hl : (putV E k (.int .i64 y)).length ≤ E.length + 1 := putV_len E k _
  obtain ⟨es, clock, q1, q2, q3, q4⟩ := h2
  have h4 := tightV (E := putV E k (.int .i64 y)) ⟨es, clock, q1, q2, q3, q4⟩
  refine ⟨w', h1, ⟨putV E k (.int .i64 y), putV_asc a k _, h4, by omega, fun j => ?_⟩, h3⟩
  rw [look_put a]
  by_cases e : j = k
  · simp [e]
  · simp only [e, if_false]; exact d j

/-- A cell of an own list of records is stored into. -/
theorem own_set {α : Type} {k : Nat} {E : Enc α k} {w : World} {B n g cap : Nat} {T : TypeId} {xs : List α} (h : w.ownsRow B T k (.slice (some ⟨g, 0, none⟩) n cap) n (flat E xs)) (i j : Nat) (x : α) (v : Value) (hi : i < xs.length) (hj : j < k)
    (hx : ∀ q, q < k → (E.cells x).getD q (.bool false) = if j = q then v else rc E xs i q) : (w.setCell ⟨g, i * k + j, none⟩ v).ownsRow B T k (.slice (some ⟨g, 0, none⟩) n cap) n (flat E (xs.set i x)) := by
  have hl : xs.length = n := by
    have := h.1
    rw [flat_len] at this
    exact Nat.eq_of_mul_eq_mul_right E.pos this
  obtain ⟨g', c', e1, _, _, _, hr⟩ := RecRow.of_row (by omega) h
  simp only [Value.slice.injEq, Option.some.injEq, Addr.mk.injEq] at e1
  obtain ⟨⟨rfl, _, _⟩, _, rfl⟩ := e1
  obtain ⟨arr, e, s, c⟩ := hr.put i j x v hi hj hx
  rcases h.2 with ⟨h0, _⟩ | ⟨g2, cap2, cur, e2, hb, hg, hnc, hcm, hsz, ht⟩
  · cases h0
  simp only [Value.slice.injEq, Option.some.injEq, Addr.mk.injEq] at e2
  obtain ⟨⟨rfl, _, _⟩, _, rfl⟩ := e2
  have hg' : (w.setCell ⟨g, i * k + j, none⟩ v).heap[g]? = some (.cells (cur.setIfInBounds (i * k + j) v) T (0, 0)) := by simp [World.setCell, Array.getElem?_modify, hg]
  rw [hg'] at e
  simp only [Option.some.injEq, Obj.cells.injEq, and_true] at e
  refine ⟨by rw [flat_len, List.length_set, hl], .inr ⟨g, cap, _, rfl, hb, hg', hnc, hcm, by simpa using hsz, ?_⟩⟩
  rw [e] at *
  apply List.ext_getElem?
  intro p
  have hk := E.pos
  by_cases hp : p < n * k
  · rw [List.getElem?_take_of_lt hp, Array.getElem?_toList]
    have h1 : p / k < (xs.set i x).length := by
      rw [List.length_set, hl]
      exact (Nat.div_lt_iff_lt_mul hk).2 hp
    have h2 : p % k < k := Nat.mod_lt _ hk
    have h3 : p / k * k + p % k = p := by rw [Nat.mul_comm]; exact Nat.div_add_mod p k
    have h4 := c (p / k) (p % k) h1 h2
    have h5 := flat_get (E := E) (xs.set i x) (p / k) (p % k) h1 h2
    rw [h3] at h4 h5
    rw [h4, h5]
  · rw [List.getElem?_eq_none (by rw [List.length_take]; omega), List.getElem?_eq_none (by rw [flat_len, List.length_set, hl]; omega)]

/-- The places so far, in a variable. -/
structure OutAt (w0 w : World) (g : Nat) (out : List PlaceR) : Prop where
  base : w0.heap.size ≤ g
  row : ∃ v, w.heap[g]? = some (.cells #[v] 29 (0, 0)) ∧ w.ownsRow w0.heap.size 35 9 v out.length (flat PlaceE out)
theorem OutAt.keep {w0 w w' : World} {g : Nat} {out : List PlaceR} {S : Nat → Obj → Prop} (h : OutAt w0 w g out) (hk : KUpd S w w') (h1 : ∀ b arr x, w.heap[b]? = some (.cells arr 35 x) → ¬ S b (.cells arr 35 x)) (h2 : ∀ b arr x, w.heap[b]? = some (.cells arr 29 x) → ¬ S b (.cells arr 29 x)) : OutAt w0 w' g out := by
  obtain ⟨v, hv, ho⟩ := h.row
  refine ⟨h.base, v, hk.block _ _ hv (h2 _ _ _ hv), row_of_heap ho fun r hr => ?_⟩
  obtain ⟨cur, hh⟩ := own_type ho hr
  rw [hh]
  exact hk.block _ _ hh (h1 _ _ _ hh)
theorem OutAt.down {w0 w w' : World} {g : Nat} {out : List PlaceR} (h : OutAt w0 w g out) (hb : Below w.heap.size w w') : OutAt w0 w' g out := h.keep (S := fun _ _ => False) (KUpd.of_below hb) (fun _ _ _ _ h => h) (fun _ _ _ _ h => h)

/-- What the calls for a row's places change. -/
def PlT (M g : Nat) (b : Nat) (o : Obj) : Prop := b = M ∨ b = g ∨ ∃ arr x, o = .cells arr 35 x

def VarI (w : World) (g : Nat) (n : Int) : Prop := w.heap[g]? = some (.cells #[.int .i64 n] 3 (0, 0))

structure Plc1 (w0 : World) (h : HallR) (r : RowR) (n i k gn gi gk gr gh g3 gm M : Nat) (w : World) (out : List PlaceR) (N : Nat) (f : Int → Int) : Prop where
  below : Below w0.heap.size w0 w
  cn : VarI w gn n
  ci : VarI w gi i
  ck : VarI w gk k
  row : RowIn w gr r
  hall : HallIn w gh h
  out : OutAt w0 w g3 out
  bm : w0.heap.size ≤ M
  mv : w.heap[gm]? = some (.cells #[.map (some M)] 109 (0, 0))
  map : IMap w M N f
theorem Plc1.down {w0 w w' : World} {h : HallR} {r : RowR} {n i k gn gi gk gr gh g3 gm M N : Nat} {out : List PlaceR} {f : Int → Int} (hp : Plc1 w0 h r n i k gn gi gk gr gh g3 gm M w out N f) (hb : Below w.heap.size w w') : Plc1 w0 h r n i k gn gi gk gr gh g3 gm M w' out N f :=
  ⟨hp.below.trans (hb.mono hp.below.size), (hb.block gn (lt_of_block hp.cn)).trans hp.cn, (hb.block gi (lt_of_block hp.ci)).trans hp.ci, (hb.block gk (lt_of_block hp.ck)).trans hp.ck, hp.row.down hb, hp.hall.down hb, hp.out.down hb, hp.bm, (hb.block gm (lt_of_block hp.mv)).trans hp.mv, hp.map.down hb⟩
end Go.Proofs.Ytmcdhggnpfhlmaa
