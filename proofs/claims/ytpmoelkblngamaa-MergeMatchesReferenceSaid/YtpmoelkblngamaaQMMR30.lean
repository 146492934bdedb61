/- merge: one log; merge: ranges over the groups: what has come; A range over a function whose round boxes what it is handed. -/
import Derived.Test.YtpmoelkblngamaaQMMR18
import Derived.Test.YtpmoelkblngamaaQMMR26
import Derived.RangeFuncSeq
import Derived.RangeFuncNested
import Derived.RangeFuncBound
import Derived.RangeFuncCalls
import Derived.RangeFuncLeaves

namespace Go.Proofs.Ytpmoelkblngamaa
open Go.RowKit Go.IntWalk

theorem logs_one {w : World} {v : Value} {l : List Scn} (h : Scs w v l) : LogsAt (w.alloc (.cells #[v] 22)) (some ⟨w.heap.size, 0, none⟩) 1 [l] := by
  refine ⟨rfl, fun i hi => ⟨w.heap.size, 0, v, rfl, ?_, ?_⟩⟩
  · have hi : i = 0 := by omega
    subst hi
    exact cell_of_row (j := 0) _ _ _ _ _ (World.alloc_heap_new w _)
  · have hi : i = 0 := by omega
    subst hi
    exact h.below (Joins.below_alloc1 w _)

end Go.Proofs.Ytpmoelkblngamaa

namespace Go.Proofs.Ytpmoelkblngamaa
open Go.RowKit Go.IntWalk Go.Maps Go.WideMaps

/-- What a range over the map hands out. -/
theorem came_grp {E : List EntT} {key v : Value} {kl : Lit} {d : DataW Value} {ps : List MemPlace} (hk : keyOf Try.prog 3 key = some kl) (hR : RV v = some (d, ps)) (hat : ∀ zd, (mapV E).atKey kl zd = d) :
    ∃ k, key = .int .i64 k ∧ kl = .int .i64 k ∧ lookV E k = some v ∧ (Lit.int .i64 k).wf = true := by
  obtain ⟨x, hx, rfl, hw⟩ := Maps.keyOf_i64 Try.underlying3 hk
  have h1 := hat (.held (.bool true))
  have h2 := hat (.held (.bool false))
  rw [mapV_at] at h1 h2
  cases hf : lookV E x with
  | none =>
    rw [hf] at h1 h2
    dsimp only at h1 h2
    rw [← h1] at h2
    simp at h2
  | some y =>
    rw [hf] at h1
    dsimp only at h1
    rw [← h1] at hR
    exact ⟨x, hx, rfl, by rw [RV_inv hR]; exact hf, hw⟩

/-- Of a map's keys, those that have come. -/
def Vis (E : List EntT) (left : Lit → Bool) (k : Int) : Prop := lookV E k ≠ none ∧ left (.int .i64 k) = false

theorem vis_start (E : List EntT) (k : Int) : ¬ Vis E (Maps.has (mapV E)) k := by
  rintro ⟨h1, h2⟩
  rw [mapV_has] at h2
  cases h : lookV E k with
  | none => exact h1 h
  | some v => rw [h] at h2; cases h2

theorem vis_next {E : List EntT} {left : Lit → Bool} {k : Int} (hk : lookV E k ≠ none) (j : Int) : Vis E (fun z => left z && !z.sameKey (.int .i64 k)) j ↔ Vis E left j ∨ j = k := by
  unfold Vis
  simp only [sameV, Bool.and_eq_false_iff, Bool.not_eq_false', decide_eq_true_eq]
  constructor
  · rintro ⟨h1, h2 | h2⟩
    · exact Or.inl ⟨h1, h2⟩
    · exact Or.inr h2
  · rintro (⟨h1, h2⟩ | rfl)
    · exact ⟨h1, Or.inl h2⟩
    · exact ⟨hk, Or.inr rfl⟩

theorem vis_done {E : List EntT} {left : Lit → Bool} (h : ∀ kl, left kl = false) (k : Int) : Vis E left k ↔ lookV E k ≠ none := ⟨fun h => h.1, fun hk => ⟨hk, h _⟩⟩

/-- The elements so far are those of the groups that have come. -/
def Got {α : Type} (E : List EntT) (left : Lit → Bool) (F : Int → α → Prop) (l : List α) : Prop := ∀ b, b ∈ l ↔ ∃ k, Vis E left k ∧ F k b

theorem got_start {α : Type} (E : List EntT) (F : Int → α → Prop) : Got E (Maps.has (mapV E)) F [] := fun b => Iff.intro (fun h => by cases h) (fun h => by obtain ⟨k, h, _⟩ := h; exact absurd h (vis_start E k))
theorem got_next {α : Type} {E : List EntT} {left : Lit → Bool} {F : Int → α → Prop} {l m : List α} (h : Got E left F l) {k : Int} (hk : lookV E k ≠ none) (hm : ∀ b, b ∈ m ↔ F k b) : Got E (fun z => left z && !z.sameKey (.int .i64 k)) F (l ++ m) := fun b => by
  rw [List.mem_append, h b, hm b]
  constructor
  · rintro (⟨j, hj, hb⟩ | hb)
    · exact ⟨j, (vis_next hk j).mpr (Or.inl hj), hb⟩
    · exact ⟨k, (vis_next hk k).mpr (Or.inr rfl), hb⟩
  · rintro ⟨j, hj, hb⟩
    rcases (vis_next hk j).mp hj with hj | rfl
    · exact Or.inl ⟨j, hj, hb⟩
    · exact Or.inr hb
theorem got_done {α : Type} {E : List EntT} {left : Lit → Bool} {F : Int → α → Prop} {l : List α} (h : Got E left F l) (hl : ∀ kl, left kl = false) (b : α) : b ∈ l ↔ ∃ k, lookV E k ≠ none ∧ F k b := by
  rw [h b]
  exact ⟨fun ⟨k, hk, hb⟩ => ⟨k, hk.1, hb⟩, fun ⟨k, hk, hb⟩ => ⟨k, ⟨hk, hl _⟩, hb⟩⟩

theorem keeps_updB {w w' : World} {bb : Nat} (h : UpdB bb w w') : KeepsWalks w w' := ⟨h.size, fun k _ hk hc => (h.block k (lt_of_block hk) (fun hB => by
  obtain ⟨_, arr, T, x, e, _⟩ := hB
  rw [hk] at e
  cases e
  cases hc)).trans hk⟩
theorem keeps_below {w w' : World} (h : Below w.heap.size w w') : KeepsWalks w w' := ⟨h.size, fun k o hk _ => (h.block k (lt_of_block hk)).trans hk⟩
theorem keeps_cells {w w' : World} {r : Option Nat} (hg : w.grownBy w' r) (hr : ∀ b, r = some b → ∃ arr T x, w.heap[b]? = some (.cells arr T x)) : KeepsWalks w w' := ⟨hg.size, fun k o hk hc => (hg.block k (lt_of_block hk) (fun e => by
  obtain ⟨arr, T, x, h⟩ := hr k e.symm
  rw [hk] at h
  cases h
  cases hc)).trans hk⟩

/-- The groups stay. -/
theorem GrpAt.updB {w w' : World} {B M bb : Nat} {E : List EntT} {G : Int → List Scn} (h : GrpAt w B M E G) (hb : UpdB bb w w') : GrpAt w' B M E G := by
  obtain ⟨es, c, e⟩ := ownsMap_blk h.map
  refine ⟨h.asc, ownsMap_heap h.map ((hb.map e).trans e.symm), h.keys, fun k v hk => row_of_heap (h.rows k v hk) fun r hr => ?_, h.apart⟩
  rcases (h.rows k v hk).2 with ⟨rfl, _⟩ | ⟨g, cap, cur, rfl, _, hg, _⟩
  · cases hr
  · cases hr
    exact (hb.cells hg (by decide) (by decide)).trans hg.symm
theorem GrpAt.cellsB {w w' : World} {B M : Nat} {E : List EntT} {G : Int → List Scn} {r : Option Nat} (h : GrpAt w B M E G) (hg : w.grownBy w' r) (hr : ∀ b, r = some b → ∃ o, w.heap[b]? = some o ∧ (∀ arr x, o ≠ .cells arr 39 x) ∧ ∀ es c, o ≠ .map es c) : GrpAt w' B M E G := by
  have hne : ∀ {b : Nat} {o : Obj}, w.heap[b]? = some o → ((∃ arr x, o = .cells arr 39 x) ∨ ∃ es c, o = .map es c) → some b ≠ r := by
    intro b o hb ho e
    obtain ⟨o', h1, h2, h3⟩ := hr b e.symm
    rw [hb] at h1
    cases h1
    rcases ho with ⟨arr, x, rfl⟩ | ⟨es, c, rfl⟩
    · exact h2 _ _ rfl
    · exact h3 _ _ rfl
  obtain ⟨es, c, e⟩ := ownsMap_blk h.map
  refine ⟨h.asc, ownsMap_heap h.map (hg.block M (lt_of_block e) (hne e (Or.inr ⟨_, _, rfl⟩))), h.keys, fun k v hk => row_of_heap (h.rows k v hk) fun r' hr' => ?_, h.apart⟩
  rcases (h.rows k v hk).2 with ⟨rfl, _⟩ | ⟨g, cap, cur, rfl, _, hgg, _⟩
  · cases hr'
  · cases hr'
    exact hg.block _ (lt_of_block hgg) (hne hgg (Or.inl ⟨_, _, rfl⟩))

theorem ranges_iter {w : World} {b r n cnt : Nat} {D : DataW Value} {left : Lit → Bool} (h : w.ranges Try.prog 3 RV b r n D left cnt) : ∃ o, w.heap[r]? = some o ∧ (∀ arr T x, o ≠ .cells arr T x) ∧ ∀ es c, o ≠ .map es c := by
  obtain ⟨es, clock, since, seen, c0, _, _, _, _, hr, _⟩ := h
  exact ⟨_, hr, fun _ _ _ e => (by cases e), fun _ _ e => (by cases e)⟩
theorem GrpAt.iter {w w' : World} {B M b r n cnt : Nat} {E : List EntT} {G : Int → List Scn} {D : DataW Value} {left : Lit → Bool} (h : GrpAt w B M E G) (hrg : w.ranges Try.prog 3 RV b r n D left cnt) (hg : w.grownBy w' (some r)) : GrpAt w' B M E G :=
  h.cellsB hg fun b e => by
    cases e
    obtain ⟨o, h1, h2, h3⟩ := ranges_iter hrg
    exact ⟨o, h1, fun arr x => h2 arr _ x, h3⟩
theorem BAt.iter {w w' : World} {bb b r n cnt : Nat} {l : List Blm} {D : DataW Value} {left : Lit → Bool} (h : BAt w bb l) (hrg : w.ranges Try.prog 3 RV b r n D left cnt) (hg : w.grownBy w' (some r)) : BAt w' bb l :=
  h.other hg fun b e => by
    cases e
    obtain ⟨o, h1, h2, _⟩ := ranges_iter hrg
    exact ⟨o, h1, fun arr T x e => absurd e (h2 arr T x)⟩

/-- A group that has come: its row. -/
theorem GrpAt.came {w : World} {B M : Nat} {E : List EntT} {G : Int → List Scn} (h : GrpAt w B M E G) {k : Int} {v : Value} (hk : lookV E k = some v) : ∃ g c, v = .slice (some ⟨g, 0, none⟩) (G k).length c ∧ 0 < (G k).length ∧ RecRow ScnE w g 39 (G k) := by
  have hne : G k ≠ [] := fun e => by rw [(h.keys k).mpr e] at hk; cases hk
  have hp : 0 < (G k).length := List.length_pos_iff.mpr hne
  obtain ⟨g, c, rfl, _, _, _, hr⟩ := RecRow.of_row hp (h.rows k v hk)
  exact ⟨g, c, rfl, hp, hr⟩

theorem gateF_len (l : List Scn) (g : Int) : (gateF l g (numsS l)).length ≤ 2 * l.length + 4000 := by
  unfold gateF
  rw [List.length_append, List.length_append]
  have h1 := fork_len l
  have h2 : (orderF (firstL l) (numsS l) (numsS l).length).length ≤ l.length := by
    unfold orderF
    rw [List.length_map]
    refine Nat.le_trans (List.length_filter_le _ _) ?_
    rw [List.length_range']
    have h3 : (numsS l).length ≤ ((firstL l).map (·.number)).length := List.Nodup.length_le_of_subset (strict_nodup KI (setK_strict KI _)) fun a ha => (setK_mem KI _ a).mp ha
    rw [List.length_map] at h3
    have := first_len l
    omega
  have h4 : (if 4000 < (numsS l).getD ((numsS l).length - 1) 0 then [] else gapF l g ((numsS l).getD ((numsS l).length - 1) 0) ((numsS l).getD ((numsS l).length - 1) 0).toNat).length ≤ 4000 := by
    split
    · exact Nat.zero_le _
    · unfold gapF
      rw [List.length_map]
      refine Nat.le_trans (List.length_filter_le _ _) ?_
      rw [List.length_range']
      omega
  omega
theorem merge_wf {l : List Scn} (h : ∀ s ∈ l, WfS s) : ∀ s ∈ mergeS l, WfS s := fun s hs => h s ((setK_mem KS l s).mp hs)
end Go.Proofs.Ytpmoelkblngamaa

namespace Go.Proofs.Ytpmoelkblngamaa
open Go.RowKit

/-- The frame of a round, with its box in a slot. -/
def boxFrame (ps : Array Tmp) (vs tmps : Array Value) (slot b : Nat) : Act :=
  { tmps := ((ps.zip vs).foldl (fun t (x : Tmp × Value) => t.setIfInBounds x.1 x.2) tmps).setIfInBounds slot (.pointer (some ⟨b, 0, none⟩)), defers := [] }

theorem wpIn_rangeFunc_box {F : Fence} {P : Program} {n : Nat} {α : Type} {g : Operand} {ps : Array Tmp} {assign body : Code} {Q : Exit → Act → World → Prop} {a : Act} {w : World}
    (hro : F.round = none) (h1 : 1 ≤ n) {gf : Nat} {lb : Array Value} (hg : a.eval g = .func (.func gf) #[] lb) (hFg : F.fn gf) (eg : ∀ args w, (callFunc gf args).run P w = .ok (.enter gf args) w)
    {encs : α → Array Value} {Kp : World → World → Prop} {S Sp : List α → Prop} {N : Nat} {w0 : World} (hseq : SeqStopsK F (n - 1) P gf lb encs Kp S Sp N w0)
    (hKt : ∀ {A B C : World}, Kp A B → Kp B C → Kp A C) (hKb : ∀ (W : World) (l : Nat) (o o' : Obj), w.heap.size ≤ l → W.heap[l]? = some o → o.isCells = false → o.isWalk = false → Kp W (W.putObj l o')) (hb0 : Below w0.heap.size w0 w) (hps : ∀ x, (encs x).size = ps.size)
    (I : List α → World → Prop) (hI : OwnFrom w.heap.size I) (h0 : I [] w) (slot : Nat) (Bp : Nat → α → World → Prop) (hBp : ∀ b x, OwnFrom w.heap.size (fun (_ : Unit) W => Bp b x W))
    (hassign : ∀ (l : Nat) (pre : List α) (x : α) (W : World) (K : Act → World → Prop), I pre W → (∀ b W', KeepsFrom w.heap.size W W' → Kp W W' → I pre W' → Bp b x W' → K (boxFrame ps (encs x) a.tmps slot b) W') →
      assign.wpIn (F.inRound l) (n - 1 - 1) P (Exit.then K (fun _ _ _ => False)) { tmps := (ps.zip (encs x)).foldl (fun t (p, v) => t.setIfInBounds p v) a.tmps, defers := [] } W)
    (hbody : ∀ (l : Nat) (pre : List α) (x : α) (b : Nat) (W : World), w.heap.size ≤ l → (∃ r, W.heap[l]? = some (.loop r)) → I pre W → Bp b x W → pre.length < N → body.wpIn (F.inRound l) (n - 1 - 1) P (ownPostG w.heap.size Kp I (fun _ _ _ => False) (pre ++ [x]) W) (boxFrame ps (encs x) a.tmps slot b) W)
    (hdone : ∀ (D : Nat) (xs : List α) (W : World), w.heap.size ≤ D → S xs → I xs W → W.heap[D]? = some (.deferred (some [])) → Q .normal { a with defers := { target := .collected D, args := #[] } :: a.defers } W) :
    (Code.rangeFunc g ps assign body).wpIn F n P Q a w := by
  refine wpIn_rangeFunc_ownH hro h1 hg hFg eg hseq hKt hKb hb0 hps I (fun _ _ _ => False) hI (fun _ _ _ _ _ h _ _ => h) h0 (fun x a' W => ∃ b, Bp b x W ∧ a' = boxFrame ps (encs x) a.tmps slot b) ?_ ?_ ?_ hdone ?_
  · rintro x a' s X Y row ⟨b, hb, rfl⟩ hg hr
    exact ⟨b, hBp b x s X Y row hb hg hr, rfl⟩
  · intro l pre x W K hI' hK
    exact hassign l pre x W K hI' fun b W' k1 k2 k3 k4 => hK _ _ k1 k2 k3 ⟨b, k4, rfl⟩
  · rintro l pre x a' W hl hr hI' ⟨b, hb, rfl⟩ hlt
    exact hbody l pre x b W hl hr hI' hb hlt
  · rintro D c pre W _ _ h _
    exact h.elim
end Go.Proofs.Ytpmoelkblngamaa
