/- symMergeCmpFunc, stableCmpFunc and SortStableFunc at []int. -/
import Derived.Test.YtgpmhaeiccljaaaDoorSort5
namespace Go.Proofs.YtgpmhaeiccljaaaDoor
open Go.RowKit

theorem symMerge_any (f : Nat) (cap : Array Value) (cf : Int → Int → Int) (dom : Int → Prop) (prec : Int → Int → Prop) (g T c l : Nat)
    (hcf : ∀ (args : Array Value) (w : World), (callFunc f args).run Tryd.prog w = .ok (.enter f args) w)
    (htr : ∀ x y z, prec x y → prec y z → prec x z) (hD : l ≤ 4000) : ∀ (N : Nat) (A B : List Int), A.length + B.length ≤ N → 0 < A.length → 0 < B.length → SymMerge f cap cf dom prec g T c l A B := by
  intro N
  induction N with
  | zero => intro A B h hA _; omega
  | succ N ih =>
    intro A B h hA hB
    rcases Nat.lt_or_ge 1 A.length with h1 | h1
    · rcases Nat.lt_or_ge 1 B.length with h2 | h2
      · exact symMerge_gen f cap cf dom prec g T c l A B hcf htr hD h1 h2 (fun A' B' a b hs => ih A' B' (by omega) a b)
      · obtain ⟨x, rfl⟩ := List.length_eq_one_iff.1 (show B.length = 1 by omega)
        intro a m b P S w hcmp hl hR ha hm hb hdA hdB hsA hsB hok
        exact symMerge_right f cap cf dom prec g T c l a m b P A S x w hcf hcmp htr (by simpa using hl) hD (by simpa using hR) ha hm (by simp at hb; omega) h1 hdA (hdB x (by simp)) hsA (fun u hu => hok u hu x (by simp))
    · obtain ⟨x, rfl⟩ := List.length_eq_one_iff.1 (show A.length = 1 by omega)
      intro a m b P S w hcmp hl hR ha hm hb hdA hdB hsA hsB hok
      exact symMerge_left f cap cf dom prec g T c l a m b P B S x w hcf hcmp htr (by simpa using hl) hD (by simpa using hR) ha (by simpa using hm) (by simp at hb; omega) hB hdB (hdA x (by simp)) hsB (fun v hv => hok x (by simp) v hv)

set_option maxHeartbeats 400000 in
theorem insertion_none (f : Nat) (cap : Array Value) (sv : Value) (a : Nat) (ha : a ≤ 4000) (w : World) :
    Calls Tryd.prog 68 #[sv, .int .i64 a, .int .i64 a, .func (.func f) #[] cap] w fun e w' => e = .returned (.tuple #[]) ∧ w = w' := by
  go_enter Tryd.func68, Tryd.ntmps68
  go_wp2
  refine wp_loop_rounds 1 ?_
  rw [rounds_succ]
  have h : ¬ ((a : Int) + 1 < (a : Int)) := by omega
  go_wp2
  go_end0
  exact ⟨rfl, rfl⟩

/-- Two ranges in their first order. -/
def Cross (cf : Int → Int → Int) (prec : Int → Int → Prop) (A B : List Int) : Prop := ∀ u ∈ A, ∀ v ∈ B, Ok cf prec u v

/-- Sorted chunks in their first order. -/
structure Chunks (cf : Int → Int → Int) (prec : Int → Int → Prop) (dom : Int → Prop) (cs : List (List Int)) : Prop where
  sorted : ∀ c ∈ cs, c.Pairwise prec
  cross : cs.Pairwise (Cross cf prec)
  dom : ∀ c ∈ cs, ∀ x ∈ c, dom x

/-- Chunks of one length, but for the last, which may be shorter. -/
def Cut (bs : Nat) : List (List Int) → Prop
  | [] => True
  | c :: cs => 0 < c.length ∧ (if cs = [] then c.length ≤ bs else c.length = bs) ∧ Cut bs cs

theorem Chunks.append {cf : Int → Int → Int} {prec : Int → Int → Prop} {dom : Int → Prop} {xs ys : List (List Int)} (h : Chunks cf prec dom (xs ++ ys)) : Chunks cf prec dom xs ∧ Chunks cf prec dom ys ∧ ∀ a ∈ xs, ∀ b ∈ ys, Cross cf prec a b := by
  have hc := List.pairwise_append.1 h.cross
  exact ⟨⟨fun c hc' => h.sorted c (List.mem_append_left _ hc'), hc.1, fun c hc' => h.dom c (List.mem_append_left _ hc')⟩,
    ⟨fun c hc' => h.sorted c (List.mem_append_right _ hc'), hc.2.1, fun c hc' => h.dom c (List.mem_append_right _ hc')⟩, hc.2.2⟩

/-- Two neighbours merged. -/
theorem Chunks.merge {cf : Int → Int → Int} {prec : Int → Int → Prop} {dom : Int → Prop} {xs ys : List (List Int)} {A B M : List Int} (h : Chunks cf prec dom (xs ++ A :: B :: ys)) (hp : M.Perm (A ++ B)) (hM : M.Pairwise prec) :
    Chunks cf prec dom (xs ++ M :: ys) := by
  have hm : ∀ x, x ∈ M ↔ x ∈ A ∨ x ∈ B := fun x => by rw [hp.mem_iff, List.mem_append]
  have hc := h.cross
  rw [List.pairwise_append, List.pairwise_cons, List.pairwise_cons] at hc
  obtain ⟨c1, ⟨c2, c3, c4⟩, c5⟩ := hc
  refine ⟨fun c hc => ?_, ?_, fun c hc x hx => ?_⟩
  · rcases List.mem_append.1 hc with hc | hc
    · exact h.sorted c (by simp [hc])
    · rcases List.mem_cons.1 hc with rfl | hc
      · exact hM
      · exact h.sorted c (by simp [hc])
  · rw [List.pairwise_append, List.pairwise_cons]
    refine ⟨c1, ⟨fun b hb u hu v hv => ?_, c4⟩, fun a ha b hb => ?_⟩
    · rcases (hm u).1 hu with hu | hu
      · exact c2 b (by simp [hb]) u hu v hv
      · exact c3 b hb u hu v hv
    · rcases List.mem_cons.1 hb with rfl | hb
      · intro u hu v hv
        rcases (hm v).1 hv with hv | hv
        · exact c5 a ha A (by simp) u hu v hv
        · exact c5 a ha B (by simp) u hu v hv
      · exact c5 a ha b (by simp [hb])
  · rcases List.mem_append.1 hc with hc | hc
    · exact h.dom c (by simp [hc]) x hx
    · rcases List.mem_cons.1 hc with rfl | hc
      · rcases (hm x).1 hx with hx | hx
        · exact h.dom A (by simp) x hx
        · exact h.dom B (by simp) x hx
      · exact h.dom c (by simp [hc]) x hx

theorem Cut.full {bs : Nat} {c d : List Int} {cs : List (List Int)} (h : Cut bs (c :: d :: cs)) : c.length = bs := by
  have := h.2.1; simpa using this

theorem Cut.le {bs : Nat} {c : List Int} {cs : List (List Int)} (h : Cut bs (c :: cs)) : c.length ≤ bs := by
  have := h.2.1
  split at this <;> omega

/-- Chunks of one length ahead of a cut. -/
theorem Cut.of_full {bs : Nat} (ds cs : List (List Int)) (hb : 0 < bs) (h : ∀ d ∈ ds, d.length = bs) (hc : Cut bs cs) : Cut bs (ds ++ cs) := by
  induction ds with
  | nil => exact hc
  | cons d ds ih =>
    have hd := h d (by simp)
    refine ⟨by omega, ?_, ih (fun x hx => h x (by simp [hx]))⟩
    split <;> omega

theorem flatten_full {bs : Nat} (ds : List (List Int)) (h : ∀ d ∈ ds, d.length = bs) : ds.flatten.length = ds.length * bs := by
  induction ds with
  | nil => simp
  | cons d ds ih => rw [List.flatten_cons, List.length_append, ih (fun x hx => h x (by simp [hx])), h d (by simp), List.length_cons, Nat.add_mul]; omega

theorem Cut.one {bs : Nat} (cs : List (List Int)) (h : Cut bs cs) (hl : cs.flatten.length ≤ bs) : cs.length ≤ 1 := by
  match cs, h with
  | [], _ => simp
  | [c], _ => simp
  | c :: d :: cs, h =>
    exfalso
    have h1 := h.full
    have h2 := h.2.2.1
    simp at hl
    omega
end Go.Proofs.YtgpmhaeiccljaaaDoor
