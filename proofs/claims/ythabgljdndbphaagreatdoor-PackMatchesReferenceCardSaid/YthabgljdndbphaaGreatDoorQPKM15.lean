/- foyerref22.prove: the plain function; a slice of steps of the call's own; foyerref22.prove: the walk; foyerref22.Prove: the walk. -/
import Derived.Test.YthabgljdndbphaaGreatDoorQPKM09
import Derived.Test.YthabgljdndbphaaGreatDoorQPKM14

set_option linter.unusedVariables false
set_option linter.unusedSimpArgs false
namespace Go.Proofs.YthabgljdndbphaaGreatDoor
open Go.RowKit

/-! ### The plain function -/





/-- What the choices 0 .. r-1 for a group add: the steps, and where each of them begins. -/
def prvKids (f : List Int → Nat → List StepT) (W : List Int) (g n base : Nat) : Nat → List StepT × List Int
 | 0 => ([], [])
 | r + 1 => ((prvKids f W g n base r).1 ++ f (W.set g (if r = n then -1 else (r : Int))) (base + 1 + (prvKids f W g n base r).1.length), (prvKids f W g n base r).2 ++ [((base + 1 + (prvKids f W g n base r).1.length : Nat) : Int)])








/-! ### In memory -/
def scells : List StepT → List Value → List Value
 | t :: T, k :: K => .int .i64 t.kind :: .int .i64 t.group :: k :: scells T K
 | _, _ => []

theorem scells_length : ∀ (T : List StepT) (K : List Value), K.length = T.length → (scells T K).length = T.length * 3 := by
 intro T
 induction T with
 | nil => intro K _; cases K <;> rfl
 | cons t T ih =>
  intro K h
  cases K with
  | nil => simp at h
  | cons k K => rw [scells]; simp only [List.length_cons]; rw [ih K (by simpa using h)]; omega

theorem scells_append : ∀ (T : List StepT) (K : List Value) (T' : List StepT) (K' : List Value), K.length = T.length → scells (T ++ T') (K ++ K') = scells T K ++ scells T' K' := by
 intro T
 induction T with
 | nil => intro K T' K' h; have : K = [] := List.eq_nil_of_length_eq_zero (by simpa using h); subst this; rfl
 | cons t T ih =>
  intro K T' K' h
  cases K with
  | nil => simp at h
  | cons k K => simp only [List.cons_append, scells]; rw [ih K T' K' (by simpa using h)]

/-- The value of a step's kids. -/
def KidV (w : World) (k : Value) (ks : List Int) : Prop := ∃ ka kc, k = .slice ka ks.length kc ∧ (ks.length = 0 → ka = none) ∧ (0 < ks.length → ∃ kb, ka = some ⟨kb, 0, none⟩ ∧ IntRow w kb 3 ks)

theorem KidV.heap {w w' : World} {k : Value} {ks : List Int} (h : KidV w k ks) (e : ∀ b arr, w.heap[b]? = some (.cells arr 3 (0, 0)) → k.ownBlock = some b → w'.heap[b]? = w.heap[b]?) : KidV w' k ks := by
 obtain ⟨ka, kc, rfl, hz, hr⟩ := h
 refine ⟨ka, kc, rfl, hz, fun h0 => ?_⟩
 obtain ⟨kb, rfl, arr, h1, h2⟩ := hr h0
 exact ⟨kb, rfl, arr, (e kb arr h1 rfl).trans h1, h2⟩

theorem KidV.lt {w : World} {k : Value} {ks : List Int} (h : KidV w k ks) (b : Nat) (hb : k.ownBlock = some b) : b < w.heap.size := by
 obtain ⟨ka, kc, rfl, hz, hr⟩ := h
 by_cases h0 : 0 < ks.length
 ·
  obtain ⟨kb, rfl, r⟩ := hr h0
  simp [Value.ownBlock] at hb
  subst hb
  exact r.lt
 ·
  rw [hz (by omega)] at hb; simp [Value.ownBlock] at hb

/-- A slice of steps of the call's own, with the values of the kids. -/
structure SO (w : World) (B : Nat) (v : Value) (T : List StepT) (K : List Value) : Prop where
 len : K.length = T.length
 own : w.ownsRow B 71 3 v T.length (scells T K)
 kid : ∀ i, i < T.length → KidV w (K.getD i undef) (stepAt T i).kids

theorem SO.lt {w : World} {B : Nat} {v : Value} {T : List StepT} {K : List Value} (h : SO w B v T K) (x : Value) (hx : x ∈ K) (b : Nat) (hb : x.ownBlock = some b) : b < w.heap.size := by
 obtain ⟨i, hi, rfl⟩ := List.getElem_of_mem hx
 have h1 := h.kid i (by rw [← h.len]; exact hi)
 have e : K.getD i undef = K[i] := by simp [List.getD_eq_getElem?_getD, hi]
 rw [e] at h1
 exact h1.lt b hb


/-- The blocks of steps and of kids are as they were. -/
theorem SO.heap {w w' : World} {B : Nat} {v : Value} {T : List StepT} {K : List Value} (h : SO w B v T K) (e1 : ∀ b arr, w.heap[b]? = some (.cells arr 71 (0, 0)) → v.ownBlock = some b → w'.heap[b]? = w.heap[b]?)
  (e2 : ∀ i b arr, i < T.length → w.heap[b]? = some (.cells arr 3 (0, 0)) → (K.getD i undef).ownBlock = some b → w'.heap[b]? = w.heap[b]?) : SO w' B v T K := by
 refine ⟨h.len, ⟨h.own.1, ?_⟩, fun i hi => (h.kid i hi).heap (fun b arr hb hk => e2 i b arr hi hb hk)⟩
 rcases h.own.2 with hn | ⟨b, cap, cur, rfl, hbb, hgg, rest⟩
 ·
  exact .inl hn
 ·
  exact .inr ⟨b, cap, cur, rfl, hbb, (e1 b cur hgg rfl).trans hgg, rest⟩

theorem SO.below {w w' : World} {B : Nat} {v : Value} {T : List StepT} {K : List Value} (h : SO w B v T K) (hb : Below w.heap.size w w') : SO w' B v T K :=
 h.heap (fun _ _ h1 _ => hb.block _ (lt_of_block h1)) (fun _ _ _ _ h1 _ => hb.block _ (lt_of_block h1))

/-- A store into a block that holds neither steps nor integers. -/
theorem SO.setBox {w : World} {B : Nat} {v : Value} {T : List StepT} {K : List Value} (h : SO w B v T K) {g j : Nat} {t : TypeId} {vs : Array Value} (hb : Box w g t vs) (u : Value) (ht : t ≠ 71 ∧ t ≠ 3) : SO (w.setCell ⟨g, j, none⟩ u) B v T K := by
 unfold Box at hb
 refine h.heap (fun b arr h1 _ => heap_set b (fun e => ?_)) (fun i b arr _ h1 _ => heap_set b (fun e => ?_))
 ·
  subst e; rw [hb] at h1; simp at h1; exact ht.1 h1.2
 ·
  subst e; rw [hb] at h1; simp at h1; exact ht.2 h1.2

/-- Old blocks stay but for the slice's own; the new slice's own block is the old one's or a new one. -/
def Gr (w w' : World) (v v' : Value) : Prop := w.grownBy w' v.ownBlock ∧ (v'.ownBlock = v.ownBlock ∨ ∃ b, v'.ownBlock = some b ∧ w.heap.size ≤ b)

theorem Gr.refl (w : World) (v : Value) : Gr w w v v := ⟨grown_refl _ _, .inl rfl⟩

theorem Gr.below {w w' : World} (h : Below w.heap.size w w') (v : Value) : Gr w w' v v := ⟨grown_below h _, .inl rfl⟩

theorem Gr.trans {a b c : World} {u v x : Value} (h : Gr a b u v) (k : Gr b c v x) : Gr a c u x := by
 refine ⟨⟨k.1.os.trans h.1.os, k.1.tape.trans h.1.tape, k.1.output.trans h.1.output, Nat.le_trans h.1.size k.1.size, fun i hi hn => ?_⟩, ?_⟩
 ·
  rw [k.1.block i (Nat.lt_of_lt_of_le hi h.1.size) (fun e => ?_)]
  ·
   exact h.1.block i hi hn
  ·
   rcases h.2 with e2 | ⟨q, e2, hq⟩
   ·
    exact hn (e.trans e2)
   ·
    rw [e2] at e; simp at e; omega
 ·
  rcases k.2 with e | ⟨q, e, hq⟩
  ·
   rcases h.2 with e2 | h2
   ·
    exact .inl (e.trans e2)
   ·
    right; rw [e]; exact h2
  ·
   exact .inr ⟨q, e, Nat.le_trans h.1.size hq⟩

/-- A store into a block from n on that is not the slice's own. -/
theorem Gr.set {a b : World} {u v : Value} (h : Gr a b u v) {g j : Nat} (hg : a.heap.size ≤ g) (x : Value) : Gr a (b.setCell ⟨g, j, none⟩ x) u v :=
 ⟨⟨h.1.os, h.1.tape, h.1.output, by simpa [World.setCell] using h.1.size, fun i hi hn => by rw [heap_set i (by omega)]; exact h.1.block i hi hn⟩, h.2⟩

theorem SO.set7 {w : World} {B : Nat} {v : Value} {T : List StepT} {K : List Value} (h : SO w B v T K) {g : Nat} {t : TypeId} {vs : Array Value} (hb : Box w g t vs) (ht : t ≠ 71 ∧ t ≠ 3) (u0 u1 u2 u3 u4 u5 u6 : Value) :
  SO (((((((w.setCell ⟨g, 0, none⟩ u0).setCell ⟨g, 1, none⟩ u1).setCell ⟨g, 2, none⟩ u2).setCell ⟨g, 3, none⟩ u3).setCell ⟨g, 4, none⟩ u4).setCell ⟨g, 5, none⟩ u5).setCell ⟨g, 6, none⟩ u6) B v T K :=
 ((((((h.setBox hb u0 ht).setBox (hb.set 0 u0) u1 ht).setBox ((hb.set 0 u0).set 1 u1) u2 ht).setBox (((hb.set 0 u0).set 1 u1).set 2 u2) u3 ht).setBox ((((hb.set 0 u0).set 1 u1).set 2 u2).set 3 u3) u4 ht).setBox
  (((((hb.set 0 u0).set 1 u1).set 2 u2).set 3 u3).set 4 u4) u5 ht).setBox ((((((hb.set 0 u0).set 1 u1).set 2 u2).set 3 u3).set 4 u4).set 5 u5) u6 ht

theorem Gr.set7 {a w : World} {u v : Value} (h : Gr a w u v) {g : Nat} (hg : a.heap.size ≤ g) (u0 u1 u2 u3 u4 u5 u6 : Value) :
  Gr a (((((((w.setCell ⟨g, 0, none⟩ u0).setCell ⟨g, 1, none⟩ u1).setCell ⟨g, 2, none⟩ u2).setCell ⟨g, 3, none⟩ u3).setCell ⟨g, 4, none⟩ u4).setCell ⟨g, 5, none⟩ u5).setCell ⟨g, 6, none⟩ u6) u v :=
 ((((((h.set hg u0).set hg u1).set hg u2).set hg u3).set hg u4).set hg u5).set hg u6




/-! ### A row of integers of the call's own beside the steps -/

/-- Blocks of integers that were there are as they were. -/
def IntKept (w w' : World) : Prop := ∀ (b : Nat) (arr : Array Value), w.heap[b]? = some (.cells arr 3 (0, 0)) → w'.heap[b]? = w.heap[b]?

theorem IntKept.below {w w' : World} (h : Below w.heap.size w w') : IntKept w w' := fun b _ h1 => h.block b (lt_of_block h1)

theorem IntKept.trans {a b c : World} (h : IntKept a b) (k : IntKept b c) : IntKept a c := fun q arr h1 => (k q arr ((h q arr h1).trans h1)).trans (h q arr h1)

theorem IntKept.gr {w w' : World} {B : Nat} {v : Value} {T : List StepT} {K : List Value} (hg : w.grownBy w' v.ownBlock) (hs : SO w B v T K) : IntKept w w' := fun b arr h1 => hg.block b (lt_of_block h1) (fun e => by
 rcases hs.own.2 with ⟨rfl, _⟩ | ⟨b', cap, cur, rfl, _, hgg, _⟩
 ·
  simp [Value.ownBlock] at e
 ·
  simp [Value.ownBlock] at e; subst e; rw [hgg] at h1; simp at h1)

theorem IntKept.setBox {w : World} {g j : Nat} {t : TypeId} {vs : Array Value} (hb : Box w g t vs) (u : Value) (ht : t ≠ 3) : IntKept w (w.setCell ⟨g, j, none⟩ u) := fun b arr h1 => heap_set b (fun e => by
 subst e; unfold Box at hb; rw [hb] at h1; simp at h1; exact ht h1.2)

theorem Box.set7 {w : World} {g : Nat} {t : TypeId} {a0 a1 a2 a3 a4 a5 a6 : Value} (hb : Box w g t #[a0, a1, a2, a3, a4, a5, a6]) (u0 u1 u2 u3 u4 u5 u6 : Value) :
  Box (((((((w.setCell ⟨g, 0, none⟩ u0).setCell ⟨g, 1, none⟩ u1).setCell ⟨g, 2, none⟩ u2).setCell ⟨g, 3, none⟩ u3).setCell ⟨g, 4, none⟩ u4).setCell ⟨g, 5, none⟩ u5).setCell ⟨g, 6, none⟩ u6) g t #[u0, u1, u2, u3, u4, u5, u6] := by
 have h := (((((((hb.set 0 u0).set 1 u1).set 2 u2).set 3 u3).set 4 u4).set 5 u5).set 6 u6)
 simp only [List.setIfInBounds_toArray, List.set_cons_zero, List.set_cons_succ] at h
 exact h

theorem IntKept.set7 {w : World} {g : Nat} {t : TypeId} {vs : Array Value} (hb : Box w g t vs) (ht : t ≠ 3) (u0 u1 u2 u3 u4 u5 u6 : Value) :
  IntKept w (((((((w.setCell ⟨g, 0, none⟩ u0).setCell ⟨g, 1, none⟩ u1).setCell ⟨g, 2, none⟩ u2).setCell ⟨g, 3, none⟩ u3).setCell ⟨g, 4, none⟩ u4).setCell ⟨g, 5, none⟩ u5).setCell ⟨g, 6, none⟩ u6) :=
 ((((((IntKept.setBox hb u0 ht).trans (IntKept.setBox (hb.set 0 u0) u1 ht)).trans (IntKept.setBox ((hb.set 0 u0).set 1 u1) u2 ht)).trans (IntKept.setBox (((hb.set 0 u0).set 1 u1).set 2 u2) u3 ht)).trans
  (IntKept.setBox ((((hb.set 0 u0).set 1 u1).set 2 u2).set 3 u3) u4 ht)).trans (IntKept.setBox (((((hb.set 0 u0).set 1 u1).set 2 u2).set 3 u3).set 4 u4) u5 ht)).trans
  (IntKept.setBox ((((((hb.set 0 u0).set 1 u1).set 2 u2).set 3 u3).set 4 u4).set 5 u5) u6 ht)



theorem OwnInts.kept {w w' : World} {C n : Nat} {la : Option Addr} {L : List Int} (h : OwnInts w C la n L) (k : IntKept w w') : OwnInts w' C la n L :=
 ⟨h.1, fun h0 => by
  obtain ⟨g, e, hC, arr, h1, h2⟩ := h.2 h0
  exact ⟨g, e, hC, arr, (k g arr h1).trans h1, h2⟩⟩


/-- The steps stay where a row of integers that is none of the kids grows. -/
theorem SO.grow {w w' : World} {B C n : Nat} {v u : Value} {T : List StepT} {K xs : List Value} (h : SO w B v T K) (hu : w.ownsRow C 3 1 u n xs) (hg : w.grownBy w' u.ownBlock) (hk : ∀ x ∈ K, ∀ b, x.ownBlock = some b → u.ownBlock ≠ some b) : SO w' B v T K := by
 refine h.heap (fun b arr h1 _ => hg.block b (lt_of_block h1) (fun e => ?_)) (fun i b arr hi h1 h2 => hg.block b (lt_of_block h1) (fun e => ?_))
 ·
  rcases hu.2 with ⟨rfl, _⟩ | ⟨b', cap, cur, rfl, _, hgg, _⟩
  ·
   simp [Value.ownBlock] at e
  ·
   simp [Value.ownBlock] at e; subst e; rw [hgg] at h1; simp at h1
 ·
  have hil : i < K.length := by rw [h.len]; exact hi
  exact hk (K.getD i undef) (by rw [List.getD_eq_getElem?_getD, List.getElem?_eq_getElem hil]; exact List.getElem_mem hil) b h2 e.symm

theorem Box.grow {w w' : World} {b C n : Nat} {t : TypeId} {vs : Array Value} {u : Value} {xs : List Value} (h : Box w b t vs) (hu : w.ownsRow C 3 1 u n xs) (hg : w.grownBy w' u.ownBlock) (ht : t ≠ 3) : Box w' b t vs := by
 refine h.of_heap (hg.block b (lt_of_block h) (fun e => ?_))
 unfold Box at h
 rcases hu.2 with ⟨rfl, _⟩ | ⟨b', cap, cur, rfl, _, hgg, _⟩
 ·
  simp [Value.ownBlock] at e
 ·
  simp [Value.ownBlock] at e; subst e; rw [hgg] at h; simp at h; exact ht h.2.symm

theorem Gr.grow {a b c : World} {u v : Value} {row : Option Nat} (h : Gr a b u v) (hg : b.grownBy c row) (hr : ∀ q, row = some q → a.heap.size ≤ q) : Gr a c u v :=
 ⟨⟨hg.os.trans h.1.os, hg.tape.trans h.1.tape, hg.output.trans h.1.output, Nat.le_trans h.1.size hg.size, fun i hi hn => (hg.block i (Nat.lt_of_lt_of_le hi h.1.size) (fun e => by have := hr i e.symm; omega)).trans (h.1.block i hi hn)⟩, h.2⟩

theorem Below.grow {B : Nat} {a b c : World} {row : Option Nat} (h : Below B a b) (hB : B ≤ b.heap.size) (hg : b.grownBy c row) (hr : ∀ q, row = some q → B ≤ q) : Below B a c :=
 ⟨hg.os.trans h.os, hg.tape.trans h.tape, hg.output.trans h.output, Nat.le_trans h.size hg.size, fun i hi => (hg.block i (Nat.lt_of_lt_of_le hi hB) (fun e => by have := hr i e.symm; omega)).trans (h.block i hi)⟩

theorem SO.cell {w : World} {B sb sc : Nat} {n : Nat} {T0 T1 : List StepT} {K0 K1 : List Value} {t : StepT} {k : Value} (h : SO w B (.slice (some ⟨sb, 0, none⟩) n sc) (T0 ++ t :: T1) (K0 ++ k :: K1)) (hk0 : K0.length = T0.length) :
  w.cell? ⟨sb, T0.length * 3 + 2, none⟩ = some k ∧ w.frozen? ⟨sb, T0.length * 3 + 2, none⟩ = false ∧ T0.length < n := by
 rcases h.own.2 with ⟨hn, _⟩ | ⟨b, cap, cur, hv, hbb, hgg, c1, c2, c3, c4⟩
 ·
  simp at hn
 ·
  obtain ⟨rfl, rfl, rfl⟩ : sb = b ∧ n = (T0 ++ t :: T1).length ∧ sc = cap := by simpa using hv
  refine ⟨?_, by simp [World.frozen?, hgg], by simp⟩
  have h3 : (scells T0 K0).length = T0.length * 3 := scells_length _ _ hk0
  have e : (cur.toList.take ((T0 ++ t :: T1).length * 3))[T0.length * 3 + 2]? = some k := by
   rw [c4, scells_append _ _ _ _ hk0, scells, List.getElem?_append_right (by omega), h3, show T0.length * 3 + 2 - T0.length * 3 = 2 from by omega]
   rfl
  rw [List.getElem?_take_of_lt (by simp; omega), Array.getElem?_toList] at e
  simp only [World.cell?, hgg]
  exact e


/-- The kids of the step at n are stored into their cell. -/
theorem SO.kids {w : World} {B n sb : Nat} {sc : Nat} {T0 T1 : List StepT} {K0 K1 : List Value} {kind group : Int} {kv : Value} {ks : List Int} (h : SO w B (.slice (some ⟨sb, 0, none⟩) (T0 ++ ⟨kind, group, []⟩ :: T1).length sc) (T0 ++ ⟨kind, group, []⟩ :: T1) (K0 ++ .slice none 0 0 :: K1))
  (hn : T0.length = n) (hk0 : K0.length = n) (hkv : KidV w kv ks) :
  SO (w.setCell ⟨sb, n * 3 + 2, none⟩ kv) B (.slice (some ⟨sb, 0, none⟩) (T0 ++ ⟨kind, group, ks⟩ :: T1).length sc) (T0 ++ ⟨kind, group, ks⟩ :: T1) (K0 ++ kv :: K1) := by
 subst hn
 obtain ⟨hlen, hown, hkid⟩ := h
 have hl1 : K1.length = T1.length := by simp at hlen; omega
 have hsc : ∀ (x : Value) (k : List Int), scells (T0 ++ ⟨kind, group, k⟩ :: T1) (K0 ++ x :: K1) = scells T0 K0 ++ (.int .i64 kind :: .int .i64 group :: x :: scells T1 K1) := fun x k => by
  rw [scells_append _ _ _ _ hk0, scells]
 have h3 : (scells T0 K0).length = T0.length * 3 := scells_length _ _ hk0
 rcases hown.2 with ⟨hn, _⟩ | ⟨b, cap, cur, hv, hbb, hgg, c1, c2, c3, c4⟩
 ·
  simp at hn
 ·
  obtain ⟨rfl, rfl⟩ : sb = b ∧ sc = cap := by simpa using hv
  have hh : (w.setCell ⟨sb, T0.length * 3 + 2, none⟩ kv).heap[sb]? = some (.cells (cur.setIfInBounds (T0.length * 3 + 2) kv) 71 (0, 0)) := by simp [World.setCell, Array.getElem?_modify, hgg]
  refine ⟨by simpa using hlen, ⟨?_, .inr ⟨sb, sc, _, rfl, hbb, hh, by simpa using c1, c2, by simpa using c3, ?_⟩⟩, fun i hi => ?_⟩
  ·
   have := hown.1
   rw [hsc] at this ⊢
   simpa using this
  ·
   rw [hsc] at c4 ⊢
   have e1 : (T0 ++ ⟨kind, group, ks⟩ :: T1 : List StepT).length = (T0 ++ ⟨kind, group, []⟩ :: T1 : List StepT).length := by simp
   rw [e1, Array.toList_setIfInBounds, List.take_set, c4, List.set_append_right _ _ (by rw [h3]; omega), h3, show T0.length * 3 + 2 - T0.length * 3 = 2 from by omega]
   rfl
  ·
   have hi' : i < (T0 ++ ⟨kind, group, []⟩ :: T1 : List StepT).length := by simpa using hi
   have kept : ∀ (x : Value) (l : List Int), KidV w x l → KidV (w.setCell ⟨sb, T0.length * 3 + 2, none⟩ kv) x l := fun x l hx => hx.heap (fun b arr h1 _ => heap_set b (fun e => by
    subst e; rw [hgg] at h1; simp at h1))
   by_cases e : i = T0.length
   ·
    subst e
    have a1 : (K0 ++ kv :: K1).getD T0.length undef = kv := by rw [← hk0]; simp [List.getD_eq_getElem?_getD]
    have a2 : stepAt (T0 ++ ⟨kind, group, ks⟩ :: T1) T0.length = ⟨kind, group, ks⟩ := by simp [stepAt, List.getD_eq_getElem?_getD]
    rw [a1, a2]
    exact kept _ _ hkv
   ·
    have a1 : (K0 ++ kv :: K1).getD i undef = (K0 ++ .slice none 0 0 :: K1).getD i undef := by
     simp only [List.getD_eq_getElem?_getD, List.getElem?_append, List.getElem?_cons, hk0]
     split
     ·
      rfl
     ·
      rw [if_neg (by omega), if_neg (by omega)]
    have a2 : stepAt (T0 ++ ⟨kind, group, ks⟩ :: T1) i = stepAt (T0 ++ ⟨kind, group, []⟩ :: T1) i := by
     simp only [stepAt, List.getD_eq_getElem?_getD, List.getElem?_append, List.getElem?_cons]
     split
     ·
      rfl
     ·
      rw [if_neg (by omega), if_neg (by omega)]
    rw [a1, a2]
    exact kept _ _ (hkid i hi')
end Go.Proofs.YthabgljdndbphaaGreatDoor

namespace Go.Proofs.YthabgljdndbphaaGreatDoor
open Go.RowKit Go.IntWalk

theorem OwnInts.gr {w w' : World} {B n : Nat} {la : Option Addr} {L : List Int} {C : Nat} {v : Value} {T : List StepT} {K : List Value} (h : OwnInts w C la n L) (hg : w.grownBy w' v.ownBlock) (hs : SO w B v T K) : OwnInts w' C la n L := by
 refine ⟨h.1, fun h0 => ?_⟩
 obtain ⟨g, rfl, hC, arr, h1, h2⟩ := h.2 h0
 refine ⟨g, rfl, hC, arr, ?_, h2⟩
 rw [hg.block g (lt_of_block h1) (fun e => ?_)]
 ·
  exact h1
 ·
  rcases hs.own.2 with ⟨rfl, _⟩ | ⟨b', cap, cur, rfl, _, hgg, _⟩
  ·
   simp [Value.ownBlock] at e
  ·
   simp [Value.ownBlock] at e; subst e; rw [hgg] at h1; simp at h1

theorem Box.gr {w w' : World} {B b : Nat} {t : TypeId} {vs : Array Value} {v : Value} {T : List StepT} {K : List Value} (h : Box w b t vs) (hg : w.grownBy w' v.ownBlock) (hs : SO w B v T K) (ht : t ≠ 71) : Box w' b t vs := by
 refine h.of_heap (hg.block b (lt_of_block h) (fun e => ?_))
 unfold Box at h
 rcases hs.own.2 with ⟨rfl, _⟩ | ⟨b', cap, cur, rfl, _, hgg, _⟩
 ·
  simp [Value.ownBlock] at e
 ·
  simp [Value.ownBlock] at e; subst e; rw [hgg] at h; simp at h; exact ht h.2.symm

theorem Below.gr {a w w' : World} {B : Nat} {v : Value} {T : List StepT} {K : List Value} (h : Below B a w) (hB : B ≤ w.heap.size) (hg : w.grownBy w' v.ownBlock) (hs : SO w B v T K) : Below B a w' :=
 ⟨hg.os.trans h.os, hg.tape.trans h.tape, hg.output.trans h.output, Nat.le_trans h.size hg.size, fun i hi => (hg.block i (Nat.lt_of_lt_of_le hi hB) (fun e => by have := (hs.own.lt i e.symm).1; omega)).trans (h.block i hi)⟩



end Go.Proofs.YthabgljdndbphaaGreatDoor

namespace Go.Proofs.YthabgljdndbphaaGreatDoor
open Go.RowKit Go.IntWalk

theorem scells_get : ∀ (T : List StepT) (K : List Value), K.length = T.length → ∀ n, n < T.length → (scells T K)[n * 3]? = some (.int .i64 (stepAt T n).kind) ∧ (scells T K)[n * 3 + 1]? = some (.int .i64 (stepAt T n).group) ∧ (scells T K)[n * 3 + 2]? = some (K.getD n undef) := by
 intro T
 induction T with
 | nil => intro K _ n hn; simp at hn
 | cons t T ih =>
  intro K h n hn
  cases K with
  | nil => simp at h
  | cons k K =>
   cases n with
   | zero => simp [scells, stepAt, List.getD]
   | succ n =>
    have i := ih K (by simpa using h) n (by simpa using hn)
    have e1 : stepAt (t :: T) (n + 1) = stepAt T n := by simp [stepAt, List.getD]
    have e2 : (k :: K).getD (n + 1) undef = K.getD n undef := by simp [List.getD]
    rw [e1, e2, scells, show (n + 1) * 3 = n * 3 + 1 + 1 + 1 from by omega]
    simp only [List.getElem?_cons_succ, show n * 3 + 1 + 1 + 1 + 1 = (n * 3 + 1) + 1 + 1 + 1 from rfl, show n * 3 + 1 + 1 + 1 + 2 = (n * 3 + 2) + 1 + 1 + 1 from rfl]
    exact i

theorem SO.steps {w : World} {B : Nat} {sa : Option Addr} {n sc : Nat} {T : List StepT} {K : List Value} (h : SO w B (.slice sa n sc) T K) (_hn : n = T.length) : Steps w sa T.length T := by
 refine ⟨rfl, fun i hi => ?_⟩
 rcases h.own.2 with ⟨_, h0⟩ | ⟨b, cap, cur, hv, hbb, hgg, c1, c2, c3, c4⟩
 ·
  omega
 ·
  obtain ⟨rfl, _, rfl⟩ : sa = some ⟨b, 0, none⟩ ∧ n = T.length ∧ sc = cap := by simpa using hv
  obtain ⟨g1, g2, g3⟩ := scells_get T K h.len i hi
  obtain ⟨ka, kc, hk, hz, hr⟩ := h.kid i hi
  rw [hk] at g3
  rw [← c4] at g1 g2 g3
  rw [List.getElem?_take_of_lt (by omega), Array.getElem?_toList] at g1 g2 g3
  refine ⟨b, 0, ka, kc, rfl, ?_, ?_, ?_, rfl, fun q hq => ?_⟩
  ·
   simp only [World.cell?, hgg, Nat.zero_add]; exact g1
  ·
   simp only [World.cell?, hgg, Nat.zero_add]; exact g2
  ·
   simp only [World.cell?, hgg, Nat.zero_add]; exact g3
  ·
   obtain ⟨kb, rfl, r⟩ := hr (by omega)
   exact ⟨kb, 0, rfl, by rw [Nat.zero_add]; exact r.cell q hq⟩





end Go.Proofs.YthabgljdndbphaaGreatDoor
