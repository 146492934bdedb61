/- foyerref22.prove: the walk; foyerref22.Prove: the walk; foyerref22.best: the walk. -/
import Derived.Test.YthabgljdndbphaaGreatDoorQPKP18
import Derived.Test.YthabgljdndbphaaGreatDoorQPKP19

set_option linter.unusedVariables false
set_option linter.unusedSimpArgs false
namespace Go.Proofs.YthabgljdndbphaaGreatDoor
open Go.RowKit Go.IntWalk

theorem OwnInts.gr {w w' : World} {B n : Nat} {la : Option Addr} {L : List Int} {C : Nat} {v : Value} {T : List StepT} {K : List Value} (h : OwnInts w C la n L) (hg : w.grownBy w' v.ownBlock) (hs : SO w B v T K) : OwnInts w' C la n L := by
 refine ⟨h.1, fun h0 => ?_⟩
 obtain ⟨g, rfl, hC, arr, h1, h2⟩ := h.2 h0
 refine ⟨g, rfl, hC, arr, ?_, h2⟩
 rw [hg.block g (lt_of_block h1) (fun e => ?_)]
 ·
  exact h1
 ·
  rcases hs.own.2 with ⟨rfl, _⟩ | ⟨b', cap, cur, rfl, _, hgg, _⟩
  ·
   simp [Value.ownBlock] at e
  ·
   simp [Value.ownBlock] at e; subst e; rw [hgg] at h1; simp at h1

theorem Box.gr {w w' : World} {B b : Nat} {t : TypeId} {vs : Array Value} {v : Value} {T : List StepT} {K : List Value} (h : Box w b t vs) (hg : w.grownBy w' v.ownBlock) (hs : SO w B v T K) (ht : t ≠ 71) : Box w' b t vs := by
 refine h.of_heap (hg.block b (lt_of_block h) (fun e => ?_))
 unfold Box at h
 rcases hs.own.2 with ⟨rfl, _⟩ | ⟨b', cap, cur, rfl, _, hgg, _⟩
 ·
  simp [Value.ownBlock] at e
 ·
  simp [Value.ownBlock] at e; subst e; rw [hgg] at h; simp at h; exact ht h.2.symm

theorem Below.gr {a w w' : World} {B : Nat} {v : Value} {T : List StepT} {K : List Value} (h : Below B a w) (hB : B ≤ w.heap.size) (hg : w.grownBy w' v.ownBlock) (hs : SO w B v T K) : Below B a w' :=
 ⟨hg.os.trans h.os, hg.tape.trans h.tape, hg.output.trans h.output, Nat.le_trans h.size hg.size, fun i hi => (hg.block i (Nat.lt_of_lt_of_le hi hB) (fun e => by have := (hs.own.lt i e.symm).1; omega)).trans (h.block i hi)⟩



end Go.Proofs.YthabgljdndbphaaGreatDoor

namespace Go.Proofs.YthabgljdndbphaaGreatDoor
open Go.RowKit Go.IntWalk

theorem scells_get : ∀ (T : List StepT) (K : List Value), K.length = T.length → ∀ n, n < T.length → (scells T K)[n * 3]? = some (.int .i64 (stepAt T n).kind) ∧ (scells T K)[n * 3 + 1]? = some (.int .i64 (stepAt T n).group) ∧ (scells T K)[n * 3 + 2]? = some (K.getD n undef) := by
 intro T
 induction T with
 | nil => intro K _ n hn; simp at hn
 | cons t T ih =>
  intro K h n hn
  cases K with
  | nil => simp at h
  | cons k K =>
   cases n with
   | zero => simp [scells, stepAt, List.getD]
   | succ n =>
    have i := ih K (by simpa using h) n (by simpa using hn)
    have e1 : stepAt (t :: T) (n + 1) = stepAt T n := by simp [stepAt, List.getD]
    have e2 : (k :: K).getD (n + 1) undef = K.getD n undef := by simp [List.getD]
    rw [e1, e2, scells, show (n + 1) * 3 = n * 3 + 1 + 1 + 1 from by omega]
    simp only [List.getElem?_cons_succ, show n * 3 + 1 + 1 + 1 + 1 = (n * 3 + 1) + 1 + 1 + 1 from rfl, show n * 3 + 1 + 1 + 1 + 2 = (n * 3 + 2) + 1 + 1 + 1 from rfl]
    exact i

theorem SO.steps {w : World} {B : Nat} {sa : Option Addr} {n sc : Nat} {T : List StepT} {K : List Value} (h : SO w B (.slice sa n sc) T K) (_hn : n = T.length) : Steps w sa T.length T := by
 refine ⟨rfl, fun i hi => ?_⟩
 rcases h.own.2 with ⟨_, h0⟩ | ⟨b, cap, cur, hv, hbb, hgg, c1, c2, c3, c4⟩
 ·
  omega
 ·
  obtain ⟨rfl, _, rfl⟩ : sa = some ⟨b, 0, none⟩ ∧ n = T.length ∧ sc = cap := by simpa using hv
  obtain ⟨g1, g2, g3⟩ := scells_get T K h.len i hi
  obtain ⟨ka, kc, hk, hz, hr⟩ := h.kid i hi
  rw [hk] at g3
  rw [← c4] at g1 g2 g3
  rw [List.getElem?_take_of_lt (by omega), Array.getElem?_toList] at g1 g2 g3
  refine ⟨b, 0, ka, kc, rfl, ?_, ?_, ?_, rfl, fun q hq => ?_⟩
  ·
   simp only [World.cell?, hgg, Nat.zero_add]; exact g1
  ·
   simp only [World.cell?, hgg, Nat.zero_add]; exact g2
  ·
   simp only [World.cell?, hgg, Nat.zero_add]; exact g3
  ·
   obtain ⟨kb, rfl, r⟩ := hr (by omega)
   exact ⟨kb, 0, rfl, by rw [Nat.zero_add]; exact r.cell q hq⟩





end Go.Proofs.YthabgljdndbphaaGreatDoor

namespace Go.Proofs.YthabgljdndbphaaGreatDoor
open Go.RowKit Go.IntWalk

end Go.Proofs.YthabgljdndbphaaGreatDoor
