/- foyerref22.prove: the plain function; a slice of steps of the call's own. -/
import Derived.Test.YtaomlhhlefpdeaaQFitBound14
import Derived.Test.YtaomlhhlefpdeaaQFitBound29

namespace Go.Proofs.Ytaomlhhlefpdeaa
open Go.RowKit

/-! ### The plain function -/
/-- A run that decides about the step. -/
def badRun2 (single last : Bool) (R L : List Int) (r : Nat) : Bool := decide (ix L r < 0) || (single && last && decide (ix L r = 1) && decide (ix L r < ix R r))

/-- The first of the runs from r on. -/
def firstBad (p : Nat → Bool) : Nat → Nat → Option Nat
  | _, 0 => none
  | r, n + 1 => if p r then some r else firstBad p (r + 1) n

theorem firstBad_skip (p : Nat → Bool) : ∀ i n, (∀ q, q < i → p q = false) → i ≤ n → firstBad p 0 n = firstBad p i (n - i) := by
  have h : ∀ i r n, (∀ q, r ≤ q → q < r + i → p q = false) → i ≤ n → firstBad p r n = firstBad p (r + i) (n - i) := by
    intro i
    induction i with
    | zero => intro r n _ _; rfl
    | succ i ih =>
      intro r n hp hi
      obtain ⟨n, rfl⟩ : ∃ k, n = k + 1 := ⟨n - 1, by omega⟩
      rw [firstBad, hp r (Nat.le_refl _) (by omega)]
      simp only [Bool.false_eq_true, if_false]
      rw [ih (r + 1) n (fun q h1 h2 => hp q (by omega) (by omega)) (by omega), show r + 1 + i = r + (i + 1) from by omega, show n - i = n + 1 - (i + 1) from by omega]
  intro i n hp hi
  have := h i 0 n (fun q _ h2 => hp q (by omega)) hi
  rw [Nat.zero_add] at this
  exact this

theorem firstBad_at (p : Nat → Bool) (i n : Nat) (hp : ∀ q, q < i → p q = false) (hi : i < n) (h : p i = true) : firstBad p 0 n = some i := by
  rw [firstBad_skip p i n hp (by omega)]
  obtain ⟨k, hk⟩ : ∃ k, n - i = k + 1 := ⟨n - i - 1, by omega⟩
  rw [hk, firstBad, if_pos h]

theorem firstBad_none (p : Nat → Bool) (n : Nat) (hp : ∀ q, q < n → p q = false) : firstBad p 0 n = none := by
  rw [firstBad_skip p n n hp (Nat.le_refl _), Nat.sub_self, firstBad]

/-- What the choices 0 .. r-1 for a group add: the steps, and where each of them begins. -/
def prvKids (f : List Int → Nat → List StepT) (W : List Int) (g n base : Nat) : Nat → List StepT × List Int
  | 0 => ([], [])
  | r + 1 => ((prvKids f W g n base r).1 ++ f (W.set g (if r = n then -1 else (r : Int))) (base + 1 + (prvKids f W g n base r).1.length), (prvKids f W g n base r).2 ++ [((base + 1 + (prvKids f W g n base r).1.length : Nat) : Int)])

/-- The steps that decide about the last k groups. -/
def prvF (single : Bool) (R : List Int) (G : List (Int × Int)) : Nat → List Int → Nat → List StepT
  | 0, W, _ => match firstBad (badRun2 single true R (roomsL R G W G.length)) 0 R.length with
    | some r => [⟨3, (r : Int), []⟩]
    | none => [⟨2, 0, []⟩]
  | k + 1, W, base => match firstBad (badRun2 single false R (roomsL R G W G.length)) 0 R.length with
    | some r => [⟨3, (r : Int), []⟩]
    | none => ⟨1, ((G.length - (k + 1) : Nat) : Int), (prvKids (prvF single R G k) W (G.length - (k + 1)) R.length base (R.length + 1)).2⟩ :: (prvKids (prvF single R G k) W (G.length - (k + 1)) R.length base (R.length + 1)).1

theorem prvF_bad {single : Bool} {R : List Int} {G : List (Int × Int)} {W : List Int} {r : Nat} (k base : Nat) (h : firstBad (badRun2 single (decide (k = 0)) R (roomsL R G W G.length)) 0 R.length = some r) : prvF single R G k W base = [⟨3, (r : Int), []⟩] := by
  cases k with
  | zero => rw [prvF]; simp only [decide_true] at h; rw [h]
  | succ k => rw [prvF]; simp only [Nat.add_eq_zero_iff, Nat.succ_ne_self, and_false, decide_false] at h; rw [h]

theorem prvF_zero {single : Bool} {R : List Int} {G : List (Int × Int)} {W : List Int} (base : Nat) (h : firstBad (badRun2 single (decide (0 = 0)) R (roomsL R G W G.length)) 0 R.length = none) : prvF single R G 0 W base = [⟨2, 0, []⟩] := by
  rw [prvF]; simp only [decide_true] at h; rw [h]

theorem prvF_succ {single : Bool} {R : List Int} {G : List (Int × Int)} {W : List Int} (k base : Nat) (h : firstBad (badRun2 single (decide (k + 1 = 0)) R (roomsL R G W G.length)) 0 R.length = none) :
    prvF single R G (k + 1) W base = ⟨1, ((G.length - (k + 1) : Nat) : Int), (prvKids (prvF single R G k) W (G.length - (k + 1)) R.length base (R.length + 1)).2⟩ :: (prvKids (prvF single R G k) W (G.length - (k + 1)) R.length base (R.length + 1)).1 := by
  rw [prvF]; simp only [Nat.add_eq_zero_iff, Nat.succ_ne_self, and_false, decide_false] at h; rw [h]

def prvCap : Nat → Nat
  | 0 => 1
  | k + 1 => 1 + 5 * prvCap k

theorem prvKids_len {f : List Int → Nat → List StepT} {W : List Int} {g n base c : Nat} (hf : ∀ W b, (f W b).length ≤ c) : ∀ r, (prvKids f W g n base r).1.length ≤ r * c ∧ (prvKids f W g n base r).2.length = r := by
  intro r
  induction r with
  | zero => simp [prvKids]
  | succ r ih =>
    rw [prvKids]
    simp only [List.length_append, List.length_cons, List.length_nil]
    have := hf (W.set g (if r = n then -1 else (r : Int))) (base + 1 + (prvKids f W g n base r).1.length)
    rw [Nat.add_mul]
    omega

theorem prvF_len {single : Bool} {R : List Int} {G : List (Int × Int)} (hn : R.length ≤ 4) : ∀ k W base, 1 ≤ (prvF single R G k W base).length ∧ (prvF single R G k W base).length ≤ prvCap k := by
  intro k
  induction k with
  | zero =>
    intro W base
    rw [prvF]
    split <;> simp [prvCap]
  | succ k ih =>
    intro W base
    rw [prvF, prvCap]
    split
    · simp
    · have := (prvKids_len (W := W) (g := G.length - (k + 1)) (n := R.length) (base := base) (fun W b => (ih W b).2) (R.length + 1)).1
      have h5 : (R.length + 1) * prvCap k ≤ 5 * prvCap k := Nat.mul_le_mul_right _ (by omega)
      rw [List.length_cons]
      omega

/-! ### In memory -/
def scells : List StepT → List Value → List Value
  | t :: T, k :: K => .int .i64 t.kind :: .int .i64 t.group :: k :: scells T K
  | _, _ => []

theorem scells_length : ∀ (T : List StepT) (K : List Value), K.length = T.length → (scells T K).length = T.length * 3 := by
  intro T
  induction T with
  | nil => intro K _; cases K <;> rfl
  | cons t T ih =>
    intro K h
    cases K with
    | nil => simp at h
    | cons k K => rw [scells]; simp only [List.length_cons]; rw [ih K (by simpa using h)]; omega

theorem scells_append : ∀ (T : List StepT) (K : List Value) (T' : List StepT) (K' : List Value), K.length = T.length → scells (T ++ T') (K ++ K') = scells T K ++ scells T' K' := by
  intro T
  induction T with
  | nil => intro K T' K' h; have : K = [] := List.eq_nil_of_length_eq_zero (by simpa using h); subst this; rfl
  | cons t T ih =>
    intro K T' K' h
    cases K with
    | nil => simp at h
    | cons k K => simp only [List.cons_append, scells]; rw [ih K T' K' (by simpa using h)]

/-- The value of a step's kids. -/
def KidV (w : World) (k : Value) (ks : List Int) : Prop := ∃ ka kc, k = .slice ka ks.length kc ∧ (ks.length = 0 → ka = none) ∧ (0 < ks.length → ∃ kb, ka = some ⟨kb, 0, none⟩ ∧ IntRow w kb 3 ks)

theorem KidV.heap {w w' : World} {k : Value} {ks : List Int} (h : KidV w k ks) (e : ∀ b arr, w.heap[b]? = some (.cells arr 3 (0, 0)) → k.ownBlock = some b → w'.heap[b]? = w.heap[b]?) : KidV w' k ks := by
  obtain ⟨ka, kc, rfl, hz, hr⟩ := h
  refine ⟨ka, kc, rfl, hz, fun h0 => ?_⟩
  obtain ⟨kb, rfl, arr, h1, h2⟩ := hr h0
  exact ⟨kb, rfl, arr, (e kb arr h1 rfl).trans h1, h2⟩

theorem KidV.lt {w : World} {k : Value} {ks : List Int} (h : KidV w k ks) (b : Nat) (hb : k.ownBlock = some b) : b < w.heap.size := by
  obtain ⟨ka, kc, rfl, hz, hr⟩ := h
  by_cases h0 : 0 < ks.length
  · obtain ⟨kb, rfl, r⟩ := hr h0
    simp [Value.ownBlock] at hb
    subst hb
    exact r.lt
  · rw [hz (by omega)] at hb; simp [Value.ownBlock] at hb

/-- A slice of steps of the call's own, with the values of the kids. -/
structure SO (w : World) (B : Nat) (v : Value) (T : List StepT) (K : List Value) : Prop where
  len : K.length = T.length
  own : w.ownsRow B 51 3 v T.length (scells T K)
  kid : ∀ i, i < T.length → KidV w (K.getD i undef) (stepAt T i).kids

theorem SO.lt {w : World} {B : Nat} {v : Value} {T : List StepT} {K : List Value} (h : SO w B v T K) (x : Value) (hx : x ∈ K) (b : Nat) (hb : x.ownBlock = some b) : b < w.heap.size := by
  obtain ⟨i, hi, rfl⟩ := List.getElem_of_mem hx
  have h1 := h.kid i (by rw [← h.len]; exact hi)
  have e : K.getD i undef = K[i] := by simp [List.getD_eq_getElem?_getD, hi]
  rw [e] at h1
  exact h1.lt b hb

theorem SO.shape {w : World} {B : Nat} {v : Value} {T : List StepT} {K : List Value} (h : SO w B v T K) : ∃ sa sc, v = .slice sa T.length sc := by
  rcases h.own.2 with ⟨rfl, h0⟩ | ⟨b, cap, cur, rfl, _⟩
  · exact ⟨none, 0, by rw [h0]⟩
  · exact ⟨_, _, rfl⟩

/-- The blocks of steps and of kids are as they were. -/
theorem SO.heap {w w' : World} {B : Nat} {v : Value} {T : List StepT} {K : List Value} (h : SO w B v T K) (e1 : ∀ b arr, w.heap[b]? = some (.cells arr 51 (0, 0)) → v.ownBlock = some b → w'.heap[b]? = w.heap[b]?)
    (e2 : ∀ i b arr, i < T.length → w.heap[b]? = some (.cells arr 3 (0, 0)) → (K.getD i undef).ownBlock = some b → w'.heap[b]? = w.heap[b]?) : SO w' B v T K := by
  refine ⟨h.len, ⟨h.own.1, ?_⟩, fun i hi => (h.kid i hi).heap (fun b arr hb hk => e2 i b arr hi hb hk)⟩
  rcases h.own.2 with hn | ⟨b, cap, cur, rfl, hbb, hgg, rest⟩
  · exact .inl hn
  · exact .inr ⟨b, cap, cur, rfl, hbb, (e1 b cur hgg rfl).trans hgg, rest⟩

theorem SO.below {w w' : World} {B : Nat} {v : Value} {T : List StepT} {K : List Value} (h : SO w B v T K) (hb : Below w.heap.size w w') : SO w' B v T K :=
  h.heap (fun _ _ h1 _ => hb.block _ (lt_of_block h1)) (fun _ _ _ _ h1 _ => hb.block _ (lt_of_block h1))

/-- A store into a block that holds neither steps nor integers. -/
theorem SO.setBox {w : World} {B : Nat} {v : Value} {T : List StepT} {K : List Value} (h : SO w B v T K) {g j : Nat} {t : TypeId} {vs : Array Value} (hb : Box w g t vs) (u : Value) (ht : t ≠ 51 ∧ t ≠ 3) : SO (w.setCell ⟨g, j, none⟩ u) B v T K := by
  unfold Box at hb
  refine h.heap (fun b arr h1 _ => heap_set b (fun e => ?_)) (fun i b arr _ h1 _ => heap_set b (fun e => ?_))
  · subst e; rw [hb] at h1; simp at h1; exact ht.1 h1.2
  · subst e; rw [hb] at h1; simp at h1; exact ht.2 h1.2

/-- Old blocks stay but for the slice's own; the new slice's own block is the old one's or a new one. -/
def Gr (w w' : World) (v v' : Value) : Prop := w.grownBy w' v.ownBlock ∧ (v'.ownBlock = v.ownBlock ∨ ∃ b, v'.ownBlock = some b ∧ w.heap.size ≤ b)

theorem Gr.refl (w : World) (v : Value) : Gr w w v v := ⟨grown_refl _ _, .inl rfl⟩

theorem Gr.below {w w' : World} (h : Below w.heap.size w w') (v : Value) : Gr w w' v v := ⟨grown_below h _, .inl rfl⟩

theorem Gr.trans {a b c : World} {u v x : Value} (h : Gr a b u v) (k : Gr b c v x) : Gr a c u x := by
  refine ⟨⟨k.1.os.trans h.1.os, k.1.tape.trans h.1.tape, k.1.output.trans h.1.output, Nat.le_trans h.1.size k.1.size, fun i hi hn => ?_⟩, ?_⟩
  · rw [k.1.block i (Nat.lt_of_lt_of_le hi h.1.size) (fun e => ?_)]
    · exact h.1.block i hi hn
    · rcases h.2 with e2 | ⟨q, e2, hq⟩
      · exact hn (e.trans e2)
      · rw [e2] at e; simp at e; omega
  · rcases k.2 with e | ⟨q, e, hq⟩
    · rcases h.2 with e2 | h2
      · exact .inl (e.trans e2)
      · right; rw [e]; exact h2
    · exact .inr ⟨q, e, Nat.le_trans h.1.size hq⟩

/-- A store into a block from n on that is not the slice's own. -/
theorem Gr.set {a b : World} {u v : Value} (h : Gr a b u v) {g j : Nat} (hg : a.heap.size ≤ g) (x : Value) : Gr a (b.setCell ⟨g, j, none⟩ x) u v :=
  ⟨⟨h.1.os, h.1.tape, h.1.output, by simpa [World.setCell] using h.1.size, fun i hi hn => by rw [heap_set i (by omega)]; exact h.1.block i hi hn⟩, h.2⟩

theorem SO.set7 {w : World} {B : Nat} {v : Value} {T : List StepT} {K : List Value} (h : SO w B v T K) {g : Nat} {t : TypeId} {vs : Array Value} (hb : Box w g t vs) (ht : t ≠ 51 ∧ t ≠ 3) (u0 u1 u2 u3 u4 u5 u6 : Value) :
    SO (((((((w.setCell ⟨g, 0, none⟩ u0).setCell ⟨g, 1, none⟩ u1).setCell ⟨g, 2, none⟩ u2).setCell ⟨g, 3, none⟩ u3).setCell ⟨g, 4, none⟩ u4).setCell ⟨g, 5, none⟩ u5).setCell ⟨g, 6, none⟩ u6) B v T K :=
  ((((((h.setBox hb u0 ht).setBox (hb.set 0 u0) u1 ht).setBox ((hb.set 0 u0).set 1 u1) u2 ht).setBox (((hb.set 0 u0).set 1 u1).set 2 u2) u3 ht).setBox ((((hb.set 0 u0).set 1 u1).set 2 u2).set 3 u3) u4 ht).setBox
    (((((hb.set 0 u0).set 1 u1).set 2 u2).set 3 u3).set 4 u4) u5 ht).setBox ((((((hb.set 0 u0).set 1 u1).set 2 u2).set 3 u3).set 4 u4).set 5 u5) u6 ht

theorem Gr.set7 {a w : World} {u v : Value} (h : Gr a w u v) {g : Nat} (hg : a.heap.size ≤ g) (u0 u1 u2 u3 u4 u5 u6 : Value) :
    Gr a (((((((w.setCell ⟨g, 0, none⟩ u0).setCell ⟨g, 1, none⟩ u1).setCell ⟨g, 2, none⟩ u2).setCell ⟨g, 3, none⟩ u3).setCell ⟨g, 4, none⟩ u4).setCell ⟨g, 5, none⟩ u5).setCell ⟨g, 6, none⟩ u6) u v :=
  ((((((h.set hg u0).set hg u1).set hg u2).set hg u3).set hg u4).set hg u5).set hg u6

theorem Try_infoStep : (Try.prog.info? 51).map (fun i => (i.zero, i.size, i.bytes)) = some (some (.agg #[.int .i64 0, .int .i64 0, .slice none 0 0]), 3, 40) := by kernel_rfl

theorem getD_left {α : Type} (A C : List α) (d : α) (i : Nat) (h : i < A.length) : (A ++ C).getD i d = A.getD i d := by simp [List.getD_eq_getElem?_getD, List.getElem?_append_left h]

/-- One step is appended. -/
theorem push_step {w : World} {B : Nat} {v : Value} {T : List StepT} {K : List Value} (h : SO w B v T K) (hB : B ≤ w.heap.size) (hl : T.length ≤ 100000) (kind group : Int) : ∃ v' w',
    (Builtin.append_ #[44, 44] 44 #[v, .slice (some ⟨w.heap.size, 0, none⟩) 1 1]).run Try.prog (w.alloc (.cells #[.int .i64 kind, .int .i64 group, .slice none 0 0] 51)) = .ok v' w' ∧
    SO w' B v' (T ++ [⟨kind, group, []⟩]) (K ++ [.slice none 0 0]) ∧ Gr w w' v v' := by
  obtain ⟨i0, hi, hz0, hz1, hz2⟩ := info_parts Try_infoStep
  have hal : Below w.heap.size w (w.alloc (.cells #[.int .i64 kind, .int .i64 group, .slice none 0 0] 51)) := (Below.refl _ _).alloc (Nat.le_refl _) _
  have h1 := h.below hal
  have hbox : Box (w.alloc (.cells #[.int .i64 kind, .int .i64 group, .slice none 0 0] 51)) w.heap.size 51 #[.int .i64 kind, .int .i64 group, .slice none 0 0] := Box.new rfl
  obtain ⟨v', w', hr, h2, h3, _, h5⟩ := run_append_own_at (P := Try.prog) (w.alloc (.cells #[.int .i64 kind, .int .i64 group, .slice none 0 0] 51)) B 44 44 51 i0 (.agg #[.int .i64 0, .int .i64 0, .slice none 0 0]) 3 40
    Try.underlying44 hi hz0 hz1 hz2 rfl (by decide) v T.length (scells T K) h1.own ⟨w.heap.size, 0, none⟩ 1 1 [.int .i64 kind, .int .i64 group, .slice none 0 0] rfl
    (fun j u hj => by
      match j, hj with
      | 0, hj => simp at hj; subst hj; exact hbox.cell 0
      | 1, hj => simp at hj; subst hj; exact hbox.cell 1
      | 2, hj => simp at hj; subst hj; exact hbox.cell 2)
    (fun u hu => by simp at hu; rcases hu with rfl | rfl | rfl <;> rfl) (by unfold maxLen; omega) (by omega) (by simp; omega)
  have hne : ∀ b, v.ownBlock = some b → b < w.heap.size := fun b hb => (h.own.lt b hb).2
  refine ⟨v', w', hr, ⟨by simp [h.len], ?_, fun i hi => ?_⟩, ⟨?_, ?_⟩⟩
  · rw [scells_append _ _ _ _ h.len, List.length_append]; exact h2
  · rw [List.length_append] at hi
    by_cases hlt : i < T.length
    · have e1 : stepAt (T ++ [⟨kind, group, []⟩]) i = stepAt T i := getD_left _ _ _ _ hlt
      rw [getD_left _ _ _ _ (by rw [h.len]; exact hlt), e1]
      refine (h.kid i hlt).heap (fun b arr hb _ => ?_)
      rw [h3.block b (Nat.lt_of_lt_of_le (lt_of_block hb) hal.size) (fun e => ?_)]
      · exact hal.block b (lt_of_block hb)
      · rcases h.own.2 with ⟨rfl, _⟩ | ⟨b', cap, cur, rfl, _, hgg, _⟩
        · simp [Value.ownBlock] at e
        · simp [Value.ownBlock] at e; subst e; rw [hgg] at hb; simp at hb
    · have e0 : i = T.length := by simp at hi; omega
      subst e0
      have e1 : stepAt (T ++ [⟨kind, group, []⟩]) T.length = ⟨kind, group, []⟩ := by simp [stepAt, List.getD_eq_getElem?_getD]
      have e2 : (K ++ [Value.slice none 0 0]).getD T.length undef = .slice none 0 0 := by rw [← h.len]; simp [List.getD_eq_getElem?_getD]
      rw [e1, e2]
      exact ⟨none, 0, rfl, fun _ => rfl, fun h => absurd h (by simp)⟩
  · exact ⟨h3.os.trans hal.os, h3.tape.trans hal.tape, h3.output.trans hal.output, Nat.le_trans hal.size h3.size, fun i hi hn => (h3.block i (Nat.lt_of_lt_of_le hi hal.size) hn).trans (hal.block i hi)⟩
  · rcases h5 with e | e
    · exact .inl e
    · exact .inr ⟨_, e, by simp⟩

/-! ### A row of integers of the call's own beside the steps -/
theorem ownInt_heap {w w' : World} {B n : Nat} {v : Value} {xs : List Value} (h : w.ownsRow B 3 1 v n xs) (e : ∀ b arr, w.heap[b]? = some (.cells arr 3 (0, 0)) → v.ownBlock = some b → w'.heap[b]? = w.heap[b]?) : w'.ownsRow B 3 1 v n xs := by
  refine ⟨h.1, ?_⟩
  rcases h.2 with hn | ⟨b, cap, cur, rfl, hbb, hgg, rest⟩
  · exact .inl hn
  · exact .inr ⟨b, cap, cur, rfl, hbb, (e b cur hgg rfl).trans hgg, rest⟩

/-- Blocks of integers that were there are as they were. -/
def IntKept (w w' : World) : Prop := ∀ (b : Nat) (arr : Array Value), w.heap[b]? = some (.cells arr 3 (0, 0)) → w'.heap[b]? = w.heap[b]?

theorem IntKept.below {w w' : World} (h : Below w.heap.size w w') : IntKept w w' := fun b _ h1 => h.block b (lt_of_block h1)

theorem IntKept.trans {a b c : World} (h : IntKept a b) (k : IntKept b c) : IntKept a c := fun q arr h1 => (k q arr ((h q arr h1).trans h1)).trans (h q arr h1)

theorem IntKept.gr {w w' : World} {B : Nat} {v : Value} {T : List StepT} {K : List Value} (hg : w.grownBy w' v.ownBlock) (hs : SO w B v T K) : IntKept w w' := fun b arr h1 => hg.block b (lt_of_block h1) (fun e => by
  rcases hs.own.2 with ⟨rfl, _⟩ | ⟨b', cap, cur, rfl, _, hgg, _⟩
  · simp [Value.ownBlock] at e
  · simp [Value.ownBlock] at e; subst e; rw [hgg] at h1; simp at h1)

theorem IntKept.setBox {w : World} {g j : Nat} {t : TypeId} {vs : Array Value} (hb : Box w g t vs) (u : Value) (ht : t ≠ 3) : IntKept w (w.setCell ⟨g, j, none⟩ u) := fun b arr h1 => heap_set b (fun e => by
  subst e; unfold Box at hb; rw [hb] at h1; simp at h1; exact ht h1.2)

theorem Box.set7 {w : World} {g : Nat} {t : TypeId} {a0 a1 a2 a3 a4 a5 a6 : Value} (hb : Box w g t #[a0, a1, a2, a3, a4, a5, a6]) (u0 u1 u2 u3 u4 u5 u6 : Value) :
    Box (((((((w.setCell ⟨g, 0, none⟩ u0).setCell ⟨g, 1, none⟩ u1).setCell ⟨g, 2, none⟩ u2).setCell ⟨g, 3, none⟩ u3).setCell ⟨g, 4, none⟩ u4).setCell ⟨g, 5, none⟩ u5).setCell ⟨g, 6, none⟩ u6) g t #[u0, u1, u2, u3, u4, u5, u6] := by
  have h := (((((((hb.set 0 u0).set 1 u1).set 2 u2).set 3 u3).set 4 u4).set 5 u5).set 6 u6)
  simp only [List.setIfInBounds_toArray, List.set_cons_zero, List.set_cons_succ] at h
  exact h

theorem IntKept.set7 {w : World} {g : Nat} {t : TypeId} {vs : Array Value} (hb : Box w g t vs) (ht : t ≠ 3) (u0 u1 u2 u3 u4 u5 u6 : Value) :
    IntKept w (((((((w.setCell ⟨g, 0, none⟩ u0).setCell ⟨g, 1, none⟩ u1).setCell ⟨g, 2, none⟩ u2).setCell ⟨g, 3, none⟩ u3).setCell ⟨g, 4, none⟩ u4).setCell ⟨g, 5, none⟩ u5).setCell ⟨g, 6, none⟩ u6) :=
  ((((((IntKept.setBox hb u0 ht).trans (IntKept.setBox (hb.set 0 u0) u1 ht)).trans (IntKept.setBox ((hb.set 0 u0).set 1 u1) u2 ht)).trans (IntKept.setBox (((hb.set 0 u0).set 1 u1).set 2 u2) u3 ht)).trans
    (IntKept.setBox ((((hb.set 0 u0).set 1 u1).set 2 u2).set 3 u3) u4 ht)).trans (IntKept.setBox (((((hb.set 0 u0).set 1 u1).set 2 u2).set 3 u3).set 4 u4) u5 ht)).trans
    (IntKept.setBox ((((((hb.set 0 u0).set 1 u1).set 2 u2).set 3 u3).set 4 u4).set 5 u5) u6 ht)

theorem heap_set7 {w : World} {g : Nat} (u0 u1 u2 u3 u4 u5 u6 : Value) (q : Nat) (h : q ≠ g) :
    (((((((w.setCell ⟨g, 0, none⟩ u0).setCell ⟨g, 1, none⟩ u1).setCell ⟨g, 2, none⟩ u2).setCell ⟨g, 3, none⟩ u3).setCell ⟨g, 4, none⟩ u4).setCell ⟨g, 5, none⟩ u5).setCell ⟨g, 6, none⟩ u6).heap[q]? = w.heap[q]? := by
  rw [heap_set q h, heap_set q h, heap_set q h, heap_set q h, heap_set q h, heap_set q h, heap_set q h]

theorem below_set7 {B : Nat} {a w : World} (h : Below B a w) {g : Nat} (hg : B ≤ g) (u0 u1 u2 u3 u4 u5 u6 : Value) :
    Below B a (((((((w.setCell ⟨g, 0, none⟩ u0).setCell ⟨g, 1, none⟩ u1).setCell ⟨g, 2, none⟩ u2).setCell ⟨g, 3, none⟩ u3).setCell ⟨g, 4, none⟩ u4).setCell ⟨g, 5, none⟩ u5).setCell ⟨g, 6, none⟩ u6) :=
  ((((((h.setCell hg u0).setCell hg u1).setCell hg u2).setCell hg u3).setCell hg u4).setCell hg u5).setCell hg u6

theorem OwnInts.kept {w w' : World} {C n : Nat} {la : Option Addr} {L : List Int} (h : OwnInts w C la n L) (k : IntKept w w') : OwnInts w' C la n L :=
  ⟨h.1, fun h0 => by
    obtain ⟨g, e, hC, arr, h1, h2⟩ := h.2 h0
    exact ⟨g, e, hC, arr, (k g arr h1).trans h1, h2⟩⟩

/-- One number is appended to a row of the call's own. -/
theorem push_int {w : World} {B n : Nat} {v : Value} {L : List Int} (h : w.ownsRow B 3 1 v n (L.map (Value.int .i64))) (hB : B ≤ w.heap.size) (hl : n ≤ 100000) (x : Int) : ∃ v' w',
    (Builtin.append_ #[22, 22] 22 #[v, .slice (some ⟨w.heap.size, 0, none⟩) 1 1]).run Try.prog (w.alloc (.cells #[.int .i64 x] 3)) = .ok v' w' ∧
    w'.ownsRow B 3 1 v' (n + 1) ((L ++ [x]).map (Value.int .i64)) ∧ w.grownBy w' v.ownBlock ∧ (v'.ownBlock = v.ownBlock ∨ ∃ b, v'.ownBlock = some b ∧ w.heap.size ≤ b) := by
  obtain ⟨i0, hi, hz0, hz1, hz2⟩ := info_parts Try_infoInt
  have hal : Below w.heap.size w (w.alloc (.cells #[.int .i64 x] 3)) := (Below.refl _ _).alloc (Nat.le_refl _) _
  have h1 : (w.alloc (.cells #[.int .i64 x] 3)).ownsRow B 3 1 v n (L.map (Value.int .i64)) := ownInt_heap h (fun b _ hb _ => hal.block b (lt_of_block hb))
  obtain ⟨v', w', hr, h2, h3, _, h5⟩ := run_append_own_at (P := Try.prog) (w.alloc (.cells #[.int .i64 x] 3)) B 22 22 3 i0 (.int .i64 0) 1 8
    Try.underlying22 hi hz0 hz1 hz2 rfl (by decide) v n _ h1 ⟨w.heap.size, 0, none⟩ 1 1 [.int .i64 x] rfl (cell_one_new w _ _) (by intro u hu; simp at hu; subst hu; rfl) (by unfold maxLen; omega) (by omega) (by simp; omega)
  refine ⟨v', w', hr, by rw [List.map_append]; exact h2, ⟨h3.os.trans hal.os, h3.tape.trans hal.tape, h3.output.trans hal.output, Nat.le_trans hal.size h3.size, fun i hi hn => (h3.block i (Nat.lt_of_lt_of_le hi hal.size) hn).trans (hal.block i hi)⟩, ?_⟩
  rcases h5 with e | e
  · exact .inl e
  · exact .inr ⟨_, e, by simp⟩

/-- The steps stay where a row of integers that is none of the kids grows. -/
theorem SO.grow {w w' : World} {B C n : Nat} {v u : Value} {T : List StepT} {K xs : List Value} (h : SO w B v T K) (hu : w.ownsRow C 3 1 u n xs) (hg : w.grownBy w' u.ownBlock) (hk : ∀ x ∈ K, ∀ b, x.ownBlock = some b → u.ownBlock ≠ some b) : SO w' B v T K := by
  refine h.heap (fun b arr h1 _ => hg.block b (lt_of_block h1) (fun e => ?_)) (fun i b arr hi h1 h2 => hg.block b (lt_of_block h1) (fun e => ?_))
  · rcases hu.2 with ⟨rfl, _⟩ | ⟨b', cap, cur, rfl, _, hgg, _⟩
    · simp [Value.ownBlock] at e
    · simp [Value.ownBlock] at e; subst e; rw [hgg] at h1; simp at h1
  · have hil : i < K.length := by rw [h.len]; exact hi
    exact hk (K.getD i undef) (by rw [List.getD_eq_getElem?_getD, List.getElem?_eq_getElem hil]; exact List.getElem_mem hil) b h2 e.symm

theorem Box.grow {w w' : World} {b C n : Nat} {t : TypeId} {vs : Array Value} {u : Value} {xs : List Value} (h : Box w b t vs) (hu : w.ownsRow C 3 1 u n xs) (hg : w.grownBy w' u.ownBlock) (ht : t ≠ 3) : Box w' b t vs := by
  refine h.of_heap (hg.block b (lt_of_block h) (fun e => ?_))
  unfold Box at h
  rcases hu.2 with ⟨rfl, _⟩ | ⟨b', cap, cur, rfl, _, hgg, _⟩
  · simp [Value.ownBlock] at e
  · simp [Value.ownBlock] at e; subst e; rw [hgg] at h; simp at h; exact ht h.2.symm

theorem Gr.grow {a b c : World} {u v : Value} {row : Option Nat} (h : Gr a b u v) (hg : b.grownBy c row) (hr : ∀ q, row = some q → a.heap.size ≤ q) : Gr a c u v :=
  ⟨⟨hg.os.trans h.1.os, hg.tape.trans h.1.tape, hg.output.trans h.1.output, Nat.le_trans h.1.size hg.size, fun i hi hn => (hg.block i (Nat.lt_of_lt_of_le hi h.1.size) (fun e => by have := hr i e.symm; omega)).trans (h.1.block i hi hn)⟩, h.2⟩

theorem Below.grow {B : Nat} {a b c : World} {row : Option Nat} (h : Below B a b) (hB : B ≤ b.heap.size) (hg : b.grownBy c row) (hr : ∀ q, row = some q → B ≤ q) : Below B a c :=
  ⟨hg.os.trans h.os, hg.tape.trans h.tape, hg.output.trans h.output, Nat.le_trans h.size hg.size, fun i hi => (hg.block i (Nat.lt_of_lt_of_le hi hB) (fun e => by have := hr i e.symm; omega)).trans (h.block i hi)⟩

theorem SO.cell {w : World} {B sb sc : Nat} {n : Nat} {T0 T1 : List StepT} {K0 K1 : List Value} {t : StepT} {k : Value} (h : SO w B (.slice (some ⟨sb, 0, none⟩) n sc) (T0 ++ t :: T1) (K0 ++ k :: K1)) (hk0 : K0.length = T0.length) :
    w.cell? ⟨sb, T0.length * 3 + 2, none⟩ = some k ∧ w.frozen? ⟨sb, T0.length * 3 + 2, none⟩ = false ∧ T0.length < n := by
  rcases h.own.2 with ⟨hn, _⟩ | ⟨b, cap, cur, hv, hbb, hgg, c1, c2, c3, c4⟩
  · simp at hn
  · obtain ⟨rfl, rfl, rfl⟩ : sb = b ∧ n = (T0 ++ t :: T1).length ∧ sc = cap := by simpa using hv
    refine ⟨?_, by simp [World.frozen?, hgg], by simp⟩
    have h3 : (scells T0 K0).length = T0.length * 3 := scells_length _ _ hk0
    have e : (cur.toList.take ((T0 ++ t :: T1).length * 3))[T0.length * 3 + 2]? = some k := by
      rw [c4, scells_append _ _ _ _ hk0, scells, List.getElem?_append_right (by omega), h3, show T0.length * 3 + 2 - T0.length * 3 = 2 from by omega]
      rfl
    rw [List.getElem?_take_of_lt (by simp; omega), Array.getElem?_toList] at e
    simp only [World.cell?, hgg]
    exact e

theorem ownInt_shape {w : World} {B n : Nat} {v : Value} {xs : List Value} (h : w.ownsRow B 3 1 v n xs) : ∃ ka kc, v = .slice ka n kc := by
  rcases h.2 with ⟨rfl, h0⟩ | ⟨b, cap, cur, rfl, _⟩
  · exact ⟨none, 0, by rw [h0]⟩
  · exact ⟨_, _, rfl⟩

/-- The kids of the step at n are stored into their cell. -/
theorem SO.kids {w : World} {B n sb : Nat} {sc : Nat} {T0 T1 : List StepT} {K0 K1 : List Value} {kind group : Int} {kv : Value} {ks : List Int} (h : SO w B (.slice (some ⟨sb, 0, none⟩) (T0 ++ ⟨kind, group, []⟩ :: T1).length sc) (T0 ++ ⟨kind, group, []⟩ :: T1) (K0 ++ .slice none 0 0 :: K1))
    (hn : T0.length = n) (hk0 : K0.length = n) (hkv : KidV w kv ks) :
    SO (w.setCell ⟨sb, n * 3 + 2, none⟩ kv) B (.slice (some ⟨sb, 0, none⟩) (T0 ++ ⟨kind, group, ks⟩ :: T1).length sc) (T0 ++ ⟨kind, group, ks⟩ :: T1) (K0 ++ kv :: K1) := by
  subst hn
  obtain ⟨hlen, hown, hkid⟩ := h
  have hl1 : K1.length = T1.length := by simp at hlen; omega
  have hsc : ∀ (x : Value) (k : List Int), scells (T0 ++ ⟨kind, group, k⟩ :: T1) (K0 ++ x :: K1) = scells T0 K0 ++ (.int .i64 kind :: .int .i64 group :: x :: scells T1 K1) := fun x k => by
    rw [scells_append _ _ _ _ hk0, scells]
  have h3 : (scells T0 K0).length = T0.length * 3 := scells_length _ _ hk0
  rcases hown.2 with ⟨hn, _⟩ | ⟨b, cap, cur, hv, hbb, hgg, c1, c2, c3, c4⟩
  · simp at hn
  · obtain ⟨rfl, rfl⟩ : sb = b ∧ sc = cap := by simpa using hv
    have hh : (w.setCell ⟨sb, T0.length * 3 + 2, none⟩ kv).heap[sb]? = some (.cells (cur.setIfInBounds (T0.length * 3 + 2) kv) 51 (0, 0)) := by simp [World.setCell, Array.getElem?_modify, hgg]
    refine ⟨by simpa using hlen, ⟨?_, .inr ⟨sb, sc, _, rfl, hbb, hh, by simpa using c1, c2, by simpa using c3, ?_⟩⟩, fun i hi => ?_⟩
    · have := hown.1
      rw [hsc] at this ⊢
      simpa using this
    · rw [hsc] at c4 ⊢
      have e1 : (T0 ++ ⟨kind, group, ks⟩ :: T1 : List StepT).length = (T0 ++ ⟨kind, group, []⟩ :: T1 : List StepT).length := by simp
      rw [e1, Array.toList_setIfInBounds, List.take_set, c4, List.set_append_right _ _ (by rw [h3]; omega), h3, show T0.length * 3 + 2 - T0.length * 3 = 2 from by omega]
      rfl
    · have hi' : i < (T0 ++ ⟨kind, group, []⟩ :: T1 : List StepT).length := by simpa using hi
      have kept : ∀ (x : Value) (l : List Int), KidV w x l → KidV (w.setCell ⟨sb, T0.length * 3 + 2, none⟩ kv) x l := fun x l hx => hx.heap (fun b arr h1 _ => heap_set b (fun e => by
        subst e; rw [hgg] at h1; simp at h1))
      by_cases e : i = T0.length
      · subst e
        have a1 : (K0 ++ kv :: K1).getD T0.length undef = kv := by rw [← hk0]; simp [List.getD_eq_getElem?_getD]
        have a2 : stepAt (T0 ++ ⟨kind, group, ks⟩ :: T1) T0.length = ⟨kind, group, ks⟩ := by simp [stepAt, List.getD_eq_getElem?_getD]
        rw [a1, a2]
        exact kept _ _ hkv
      · have a1 : (K0 ++ kv :: K1).getD i undef = (K0 ++ .slice none 0 0 :: K1).getD i undef := by
          simp only [List.getD_eq_getElem?_getD, List.getElem?_append, List.getElem?_cons, hk0]
          split
          · rfl
          · rw [if_neg (by omega), if_neg (by omega)]
        have a2 : stepAt (T0 ++ ⟨kind, group, ks⟩ :: T1) i = stepAt (T0 ++ ⟨kind, group, []⟩ :: T1) i := by
          simp only [stepAt, List.getD_eq_getElem?_getD, List.getElem?_append, List.getElem?_cons]
          split
          · rfl
          · rw [if_neg (by omega), if_neg (by omega)]
        rw [a1, a2]
        exact kept _ _ (hkid i hi')
end Go.Proofs.Ytaomlhhlefpdeaa
