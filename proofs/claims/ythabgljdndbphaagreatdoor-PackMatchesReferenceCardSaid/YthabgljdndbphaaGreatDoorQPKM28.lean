/- pack.prove: plain and in memory. -/
import Derived.Test.YthabgljdndbphaaGreatDoorQPKM26
import Derived.Test.YthabgljdndbphaaGreatDoorQPKM27

set_option linter.unusedVariables false
set_option linter.unusedSimpArgs false
namespace Go.Proofs.YthabgljdndbphaaGreatDoor
open Go.RowKit Go.IntWalk Go.Maps Go.WideMaps
set_option linter.unusedSimpArgs false
set_option linter.unusedVariables false

theorem neg_some {L : List (Int × Bool)} {i : Nat} (hi : i < L.length) (h : L[i].1 < 0) (hb : ∀ j (hj : j < L.length), j < i → ¬ L[j].1 < 0) : L.findIdx? negP = some i := by
 rw [List.findIdx?_eq_some_iff_getElem]
 refine ⟨hi, by unfold negP; simpa using h, fun j hj => ?_⟩
 have := hb j (by omega) hj
 unfold negP
 simpa using this
theorem neg_none {L : List (Int × Bool)} (hb : ∀ j (hj : j < L.length), ¬ L[j].1 < 0) : L.findIdx? negP = none := by
 rw [List.findIdx?_eq_none_iff]
 intro x hx
 obtain ⟨j, hj, rfl⟩ := List.mem_iff_getElem.1 hx
 have := hb j hj
 unfold negP
 simpa using this
theorem sum_next {L : List (Int × Bool)} {i : Nat} (hi : i < L.length) : sumL (L.take (i + 1)) = sumL (L.take i) + L[i].1 := by
 unfold sumL
 rw [List.take_succ_eq_append_getElem hi, List.map_append, List.sum_append]
 simp
theorem sum_range {L : List (Int × Bool)} (h4 : ∀ r ∈ L, r.1 ≤ 4000) : ∀ i, i ≤ L.length → (∀ j (hj : j < L.length), j < i → ¬ L[j].1 < 0) → 0 ≤ sumL (L.take i) ∧ sumL (L.take i) ≤ 4000 * i
 | 0, _, _ => by simp [sumL]
 | i + 1, hi, hb => by
  have ih := sum_range h4 i (by omega) fun j hj h => hb j hj (by omega)
  have h1 := hb i (by omega) (by omega)
  have h2 := h4 L[i] (List.getElem_mem (by omega))
  rw [sum_next (by omega)]
  omega
theorem restB_range {G : List (Int × Int)} (hv : ValuesOk G) (g : Nat) (L : List (Int × Bool)) : 0 ≤ restB G g L ∧ restB G g L ≤ 12000000 * G.length := by
 unfold restB boundS
 split
 ·
  rename_i h
  have h1 := runsOk_sum _ _ (by omega) (validS_parts h).1
  have h2 := fillS_range (values_drop hv g) (fun _ => false) (rankedL (G.drop g)) (restR L).sum h1.1 (fun x hx => (mem_ranked _ _).1 hx)
  have h3 : (rankedL (G.drop g)).length = (G.drop g).length := by
   have := (rankedL_ok (G.drop g)).1.length_eq
   rw [this, idx_length]
  rw [h3, List.length_drop] at h2
  omega
 ·
  omega
theorem sit_low {L : List (Int × Bool)} {i : Nat} {s b : Int} (hi : i < L.length) (h : ∀ r ∈ L, b + 12 ≤ r.1 ∧ r.1 ≤ 4000) (hs : 0 ≤ s ∧ s ≤ 12) : ∀ r ∈ sitF L i s, b ≤ r.1 ∧ r.1 ≤ 4000 := by
 intro r hr'
 rw [sit_eq L i hi] at hr'
 rcases List.mem_or_eq_of_mem_set hr' with h1 | rfl
 ·
  have := h r h1
  omega
 ·
  have := h L[i] (List.getElem_mem hi)
  dsimp only
  omega

/-- The groups from g on, as they lie. -/
def gaD (ga : Option Addr) (g gc : Nat) : Option Addr := if gc = g then ga else ga.map (·.add (g * 2))
theorem pairs_drop {w : World} {ga : Option Addr} {m gc g : Nat} {G : List (Int × Int)} (h : Pairs w ga m G) (hc : m ≤ gc) (hg : g ≤ m) : Pairs w (gaD ga g gc) (m - g) (G.drop g) := by
 refine ⟨by rw [List.length_drop, h.1], fun k hk => ?_⟩
 obtain ⟨b, o, e, c0, c1⟩ := h.2 (g + k) (by omega)
 subst e
 obtain ⟨e1, e2⟩ := gs_drop G g k
 refine ⟨b, o + g * 2, ?_, ?_, ?_⟩
 ·
  unfold gaD
  rw [if_neg (by omega), Option.map_some, add_none]
 ·
  rw [e1, show o + g * 2 + k * 2 = o + (g + k) * 2 from by omega]
  exact c0
 ·
  rw [e2, show o + g * 2 + k * 2 + 1 = o + (g + k) * 2 + 1 from by omega]
  exact c1
theorem run_drop (w : World) (ga : Option Addr) (m gc g : Nat) (hc : m ≤ gc) (hg : g ≤ m) : (Instr.slice 23 (.slice ga m gc) (some (.int .i64 (g : Int))) none none).run Tryz.prog w = .ok (.slice (gaD ga g gc) (m - g) (gc - g)) w := by
 have hu : Tryz.prog.underlying 23 = some (.slice (Tryz.prog.elem 23)) := by kernel_rfl
 have hs : (sizeOf (Tryz.prog.elem 23)).run Tryz.prog w = .ok 2 w := by kernel_rfl
 rw [run_slice_l w 23 ga m gc hu .i64 (g : Int) (by omega) (by omega), hs]
 rfl

/-- A step's kids are stored. -/
theorem kids_mem {wI w : World} {A : PA} {T X1 : List StepT} {X : Nat → Prop} {gr : Int} {K : List Int} {ka : Option Addr} {kn kc B : Nat} (h : PrvM wI w A (T ++ ⟨1, gr, []⟩ :: X1) X) (hkr : w.ownsRow B 3 1 (.slice ka kn kc) K.length (K.map (Value.int .i64))) (hkn : kn = K.length) (hB : wI.heap.size ≤ B) (hX : ∀ b, (Value.slice ka kn kc).ownBlock = some b → ¬ X b) :
  ∃ gS c old, w.heap[A.wb]? = some (.cells #[.slice A.ra A.rn A.rc, .slice A.ga A.m A.gc, .bool A.single, .int .i64 A.val, .slice (some ⟨gS, 0, none⟩) (T ++ ⟨1, gr, []⟩ :: X1).length c] 60 (0, 0)) ∧
   w.cell? ⟨gS, T.length * 3 + 2, none⟩ = some old ∧ w.frozen? ⟨gS, T.length * 3 + 2, none⟩ = false ∧
   PrvM wI (w.setCell ⟨gS, T.length * 3 + 2, none⟩ (.slice ka kn kc)) A (T ++ ⟨1, gr, K⟩ :: X1) X ∧ TUpd PrvT w (w.setCell ⟨gS, T.length * 3 + 2, none⟩ (.slice ka kn kc)) := by
 obtain ⟨v, Tr, hbx, ho, hs⟩ := h.box
 have hlT : (T ++ (⟨1, gr, []⟩ : StepT) :: X1).length = (T ++ (⟨1, gr, K⟩ : StepT) :: X1).length := by simp
 have hpos : 0 < (T ++ (⟨1, gr, []⟩ : StepT) :: X1).length := by simp only [List.length_append, List.length_cons]; omega
 have hTr := hs.1
 obtain ⟨gS, c, rfl, _, _, _, hrow⟩ := RecRow.of_row hpos ho
 have hi : T.length < Tr.length := by rw [hTr]; simp
 have hi2 : T.length < (T ++ (⟨1, gr, []⟩ : StepT) :: X1).length := by simp only [List.length_append, List.length_cons]; omega
 have hst := hs.2 T.length hi hi2
 have hget : (T ++ (⟨1, gr, []⟩ : StepT) :: X1)[T.length]'hi2 = ⟨1, gr, []⟩ := by simp
 rw [hget] at hst
 obtain ⟨nr, hnr⟩ : ∃ nr : StepR, nr = ⟨Tr[T.length].kind, Tr[T.length].group, ka, kn, kc⟩ := ⟨_, rfl⟩
 have hset := own_set (E := StepE) ho T.length 2 nr (.slice ka kn kc) hi (by omega) (fun q hq => by
  rw [rc_eq _ _ hi, hnr]
  match q, hq with
  | 0, _ => rfl
  | 1, _ => rfl
  | 2, _ => rfl)
 obtain ⟨cur, hc⟩ := own_type ho (r := gS) rfl
 have ht := tupd_set (j := T.length * 3 + 2) hc (.slice ka kn kc)
 refine ⟨gS, c, _, hbx, hrow.cell T.length 2 hi (by omega), hrow.free _, ⟨h.below.setCell (by
  show _ ≤ gS
  exact (ho.lt gS rfl).1) _, h.new, _, Tr.set T.length nr, ht.keep hbx (by decide), ?_, ?_⟩, ht.wide fun i e => Or.inr e⟩
 ·
  rw [← hlT]
  exact hset
 ·
  refine ⟨by rw [List.length_set, hTr]; simp, fun i h1 h2 => ?_⟩
  rw [List.getElem_set]
  by_cases e : T.length = i
  ·
   subst e
   rw [if_pos rfl]
   have hget2 : (T ++ (⟨1, gr, K⟩ : StepT) :: X1)[T.length]'h2 = ⟨1, gr, K⟩ := by simp
   rw [hget2, hnr]
   refine ⟨hst.kind, hst.group, hkn, ?_, hX⟩
   dsimp only
   refine row_of_heap (own_mono hkr hB) fun b hb => ?_
   obtain ⟨cur2, hc2⟩ := own_type hkr hb
   rw [ht.keep hc2 (by decide), hc2]
  ·
   rw [if_neg e]
   have hi3 : i < (T ++ (⟨1, gr, []⟩ : StepT) :: X1).length := by rw [hlT]; exact h2
   have hsame : (T ++ (⟨1, gr, K⟩ : StepT) :: X1)[i]'h2 = (T ++ (⟨1, gr, []⟩ : StepT) :: X1)[i]'hi3 := by
    by_cases h5 : i < T.length
    ·
     rw [List.getElem_append_left h5, List.getElem_append_left h5]
    ·
     obtain ⟨q, hq⟩ : ∃ q, i = T.length + (q + 1) := ⟨i - T.length - 1, by omega⟩
     subst hq
     simp
   rw [hsame]
   exact (hs.2 i (by rw [List.length_set] at h1; exact h1) hi3).heap fun b cur2 hc2 _ => ht.keep hc2 (by decide)
theorem kidsU_mono {G : List (Int × Int)} {val : Int} {k g : Nat} {L : List (Int × Bool)} {gain : Int} {base r N : Nat} (h : r ≤ N) : (kidsU G val k g L gain base r).1.length ≤ (kidsU G val k g L gain base N).1.length := by
 by_cases e : r = N
 ·
  subst e
  exact Nat.le_refl _
 ·
  unfold kidsU
  obtain ⟨Y, hY⟩ := prvKids_split (stpKid (stpF G val k (g + 1)) G g L gain) [0] 0 L.length base r N (by omega)
  rw [hY, List.length_append, List.length_append]
  omega
theorem flat_int (l : List Int) : flat IntE l = l.map (Value.int .i64) := by
 unfold flat
 induction l with
 | nil => rfl
 | cons x l ih => rw [List.flatMap_cons, ih]; rfl
/-- A kid's number is put behind the others. -/
theorem kid_mem {wI w0 w : World} {A : PA} {T : List StepT} {X : Nat → Prop} {v : Value} {n : Nat} {K : List Int} {x : Int} (h : PrvM wI w A T (fun b => X b ∨ v.ownBlock = some b)) (ho : w.ownsRow w0.heap.size 3 1 v n (K.map (Value.int .i64))) (hn : n ≤ 4000) (hB : wI.heap.size ≤ w0.heap.size) (ht : TUpd PrvT w0 w) :
  ∃ v' w2, (Builtin.append_ #[22, 22] 22 #[v, .slice (some ⟨w.heap.size, 0, none⟩) 1 1]).run Tryz.prog (w.alloc (.cells #[.int .i64 x] 3)) = .ok v' w2 ∧
   w2.ownsRow w0.heap.size 3 1 v' (n + 1) ((K ++ [x]).map (Value.int .i64)) ∧ PrvM wI w2 A T (fun b => X b ∨ v'.ownBlock = some b) ∧ TUpd PrvT w0 w2 ∧ TUpd (fun T => T = 3) w w2 := by
 have hba := Joins.below_alloc1 w (.cells #[.int .i64 x] 3)
 have ho1 := row_of_heap ho fun b hb => hba.block b (ho.lt b hb).2
 have hrc := recs_alloc IntE w 3 [x] #[.int .i64 x] rfl
 have ho2 := ho1
 rw [← flat_int] at ho2
 have hsz : w0.heap.size ≤ (w.alloc (.cells #[.int .i64 x] 3)).heap.size := Nat.le_trans ht.size hba.size
 obtain ⟨v', w2, hA, hr, hg, hown⟩ := append_recs (E := IntE) 22 3 22 Tryz.underlying22 info_int rfl (by decide) ho2 (u := .slice (some ⟨w.heap.size, 0, none⟩) 1 1) ⟨_, _, rfl, hrc, fun h => by cases h⟩ (by simp; omega) hsz
 have h1 := h.down hba
 have h2 : PrvM wI (w.alloc (.cells #[.int .i64 x] 3)) A T (fun b => X b ∨ v.ownBlock = some b ∨ b = (w.alloc (.cells #[.int .i64 x] 3)).heap.size) := h1.other fun b hb hy => by
  rcases hy with hy | hy | hy
  ·
   exact Or.inl hy
  ·
   exact Or.inr hy
  ·
   omega
 have h3 := h2.kids ho1 hB hg (fun b hb => Or.inr (Or.inl hb))
 refine ⟨v', w2, hA, by rw [flat_int] at hr; exact hr, h3.other fun b hb hy => ?_, (ht.down hba).grownNew hg fun k hk => (ho1.lt k hk).1, (TUpd.of_below hba).trans (tupd_own ho1 hg)⟩
 rcases hy with hy | hy
 ·
  exact Or.inl hy
 ·
  rcases hown with e | e
  ·
   exact Or.inr (Or.inl (e.symm.trans hy))
  ·
   rw [e] at hy
   cases hy
   exact Or.inr (Or.inr rfl)
end Go.Proofs.YthabgljdndbphaaGreatDoor
