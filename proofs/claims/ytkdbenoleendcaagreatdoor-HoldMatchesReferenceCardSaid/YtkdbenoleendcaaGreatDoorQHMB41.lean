/- foyerref26: Take. -/
import Derived.Test.YtkdbenoleendcaaGreatDoorQHMB40

namespace Go.Proofs.YtkdbenoleendcaaGreatDoor
open Go.RowKit Go.IntWalk Go.Maps Go.WideMaps

/-- What each of the six effects leaves. -/
def FT (B n : Nat) (x : Value) (E : List OwnT) (id : Int) (t : NmT) (l : List Int) (til cls : Int) (k : Nat) (u : Value) (w : World) : Prop :=
  match k with
  | 0 => w.ownsRow B 51 6 u 0 [] ∧ ∃ b, u = .slice (some ⟨b, 0, none⟩) 0 0
  | 1 => w.ownsRow B 51 6 u n (flat OwnE E) ∧ (n = 0 → ∃ b, u = .slice (some ⟨b, 0, none⟩) 0 0)
  | 2 => w.ownsRow B 3 1 u 0 [] ∧ ∃ b, u = .slice (some ⟨b, 0, none⟩) 0 0
  | 3 => ∃ b c, u = .slice (some ⟨b, 0, none⟩) l.length c ∧ IntRow w b 3 l
  | 4 => ∃ b c, u = .agg #[.int .i64 id, .string (bs t), .int .i64 0, .slice (some ⟨b, 0, none⟩) l.length c, .int .i64 til, .int .i64 cls] ∧ IntRow w b 3 l
  | 5 => ∃ b2 b c, u = .slice (some ⟨b2, 0, none⟩) 1 1 ∧ IntRow w b 3 l ∧ w.heap[b2]? = some (.cells #[.int .i64 id, .string (bs t), .int .i64 0, .slice (some ⟨b, 0, none⟩) l.length c, .int .i64 til, .int .i64 cls] 51 (0, 0))
  | _ => u = x

def bkT (n k : Nat) (u : Value) : Option Nat :=
  match k with
  | 1 => if n = 0 then none else u.ownBlock
  | _ => none

theorem FT.below {B n : Nat} {x : Value} {E : List OwnT} {id : Int} {t : NmT} {l : List Int} {til cls : Int} (k : Nat) (u : Value) (w w' : World) (h : FT B n x E id t l til cls k u w) (hb : Below w.heap.size w w') : FT B n x E id t l til cls k u w' := by
  unfold FT at *
  match k with
  | 0 => exact ⟨row_of_heap h.1 (fun r hr => hb.block r (row_lt h.1 hr)), h.2⟩
  | 1 => exact ⟨row_of_heap h.1 (fun r hr => hb.block r (row_lt h.1 hr)), h.2⟩
  | 2 => exact ⟨row_of_heap h.1 (fun r hr => hb.block r (row_lt h.1 hr)), h.2⟩
  | 3 => obtain ⟨b, c, e, r⟩ := h; exact ⟨b, c, e, r.below hb⟩
  | 4 => obtain ⟨b, c, e, r⟩ := h; exact ⟨b, c, e, r.below hb⟩
  | 5 => obtain ⟨b2, b, c, e, r, hx⟩ := h; exact ⟨b2, b, c, e, r.below hb, (hb.block b2 (lt_of_block hx)).trans hx⟩
  | k + 6 => exact h

/-- Numbers and an error; the Holds that is left. -/
def RTwoPost (g B : Nat) (r : (Int × Int) × St) (w : World) (e : Ending) (w' : World) : Prop :=
  e = .returned (.tuple #[.int .i64 r.1.1, .int .i64 r.1.2]) ∧ RS w' g B r.2 ∧ Upd (Gb g) w w'

set_option maxRecDepth 100000 in
set_option maxHeartbeats 6400000 in
theorem rtake_any (w : World) (g B : Nat) (st : St) (t : NmT) (l : List Int) (pa : Option Addr) (m mc : Nat) (til cls : Int) (h : RS w g B st)
    (hsp : st.sp.length ≤ 4000) (hla : st.last ≤ 1000) (hm : m ≤ 4000) (hmc : m ≤ mc) (hlen : t.length ≤ 1000) (hL : ∀ wx, Upd (Gb g) w wx → Ints wx pa m l) :
    Calls Tryz.prog 9 #[.pointer (some ⟨g, 0, none⟩), .string (bs t), .slice pa m mc, .int .i64 til, .int .i64 cls] w (RTwoPost g B (takeS st (nameS t) t l til cls) w) := by
  obtain ⟨hBw, hinv, oa, oc, sa, sc, E, hc, hsaB⟩ := h
  have HBW := Lib.hid hBw
  have HH := Lib.hid hc
  have HI := Lib.hid hinv
  have HL := Lib.hid hL
  have hol := inv_len hinv
  have g0 := hc.c0
  have g1 := hc.c1
  have hRS : Hid (RS w g B st) := ⟨hBw, hinv, oa, oc, sa, sc, E, hc, hsaB⟩
  have HLM := Lib.hid (hL w (Upd.refl _ _)).1
  clear hc hinv hL hBw hsaB
  obtain ⟨nm, hnm⟩ : ∃ nm, nm = nameS t := ⟨_, rfl⟩
  rw [← hnm]
  have HNM := Lib.hid hnm
  clear hnm
  cases nm
  · have HS : Hid (takeS st false t l til cls = ((0, 1), st)) := by
      show _ = _
      unfold takeS
      rw [if_pos (by unfold okTake; simp)]
    go_enter Tryz.func9, Tryz.ntmps9
    go_wp2_with fail
    refine (rname_any t hlen w).mono ?_
    rintro e w' ⟨rfl, rfl⟩
    rw [← HNM.out]
    go_wp2_with fail
    go_ret2
    exact ⟨by rw [HS.out]; rfl, by rw [HS.out]; exact hRS.out, Upd.refl _ _⟩
  go_enter Tryz.func9, Tryz.ntmps9
  go_wp2_with fail
  refine (rname_any t hlen w).mono ?_
  rintro e w' ⟨rfl, rfl⟩
  rw [← HNM.out]
  go_wp2_with fail
  refine (rchoice_any pa m mc st.sp.length l w (HL.out w (Upd.refl _ _)) (by omega) hmc).mono ?_
  rintro e w1 ⟨rfl, hq⟩
  have HB1 : Hid (Below w.heap.size w w1) := hq.below
  have HR1 : Hid (RS w1 g B st) := hRS.out.below hq.below
  have HH1 := Lib.hid (HH.out.below hq.below)
  clear hq hRS g0 g1
  cases hch : choiceB st.sp.length l
  · have HS : Hid (takeS st true t l til cls = ((0, 1), st)) := by
      show _ = _
      unfold takeS
      rw [if_pos (by unfold okTake; simp [hch])]
    go_wp2_with fail
    go_ret2
    exact ⟨by rw [HS.out]; rfl, by rw [HS.out]; exact HR1.out, Upd.of_below HB1.out⟩
  by_cases h0 : til < 0
  · have HS : Hid (takeS st true t l til cls = ((0, 1), st)) := by
      show _ = _
      unfold takeS
      rw [if_pos (by unfold okTake; simp; omega)]
    go_wp2_with fail
    go_ret2
    exact ⟨by rw [HS.out]; rfl, by rw [HS.out]; exact HR1.out, Upd.of_below HB1.out⟩
  by_cases h1 : 1000000000 < til
  · have HS : Hid (takeS st true t l til cls = ((0, 1), st)) := by
      show _ = _
      unfold takeS
      rw [if_pos (by unfold okTake; simp; omega)]
    go_wp2_with fail
    go_ret2
    exact ⟨by rw [HS.out]; rfl, by rw [HS.out]; exact HR1.out, Upd.of_below HB1.out⟩
  by_cases h2 : cls < 0
  · have HS : Hid (takeS st true t l til cls = ((0, 1), st)) := by
      show _ = _
      unfold takeS
      rw [if_pos (by unfold okTake; simp; omega)]
    go_wp2_with fail
    go_ret2
    exact ⟨by rw [HS.out]; rfl, by rw [HS.out]; exact HR1.out, Upd.of_below HB1.out⟩
  by_cases h3 : 9 < cls
  · have HS : Hid (takeS st true t l til cls = ((0, 1), st)) := by
      show _ = _
      unfold takeS
      rw [if_pos (by unfold okTake; simp; omega)]
    go_wp2_with fail
    go_ret2
    exact ⟨by rw [HS.out]; rfl, by rw [HS.out]; exact HR1.out, Upd.of_below HB1.out⟩
  have HOK : Hid (okTake st true l til cls = true) := by show _ = _; unfold okTake; simp [hch]; omega
  have g0 := HH1.out.c0
  have hd1000 : decide (1000 ≤ st.op.length) = false ∨ 1000 ≤ st.op.length := by
    by_cases h : 1000 ≤ st.op.length
    · exact Or.inr h
    · exact Or.inl (by simpa using h)
  by_cases h4 : 1000 ≤ st.op.length
  · have HS : Hid (takeS st true t l til cls = ((0, 3), st)) := by
      show _ = _
      unfold takeS
      rw [if_neg (by rw [HOK.out]; simp), if_pos h4]
    go_wp2_with fail
    go_ret2
    exact ⟨by rw [HS.out]; rfl, by rw [HS.out]; exact HR1.out, Upd.of_below HB1.out⟩
  have hchs := Lib.hid (choice_iff.mp hch)
  have HRF : Hid (rfreeB st.sp 0 l = !l.any (takenB st.sp)) := rfree_0 HI.out hchs.out.2.1
  clear hd1000
  go_wp2_with fail
  refine (rfree_any w1 g oa sa oc sc E st l pa m mc 0 HH1.out hm hchs.out.2.1 (HL.out w1 (Upd.of_below HB1.out))).mono ?_
  rintro e w2 ⟨rfl, hb2⟩
  have HB2 : Hid (Below w.heap.size w w2) := HB1.out.trans (hb2.mono HB1.out.size)
  have HH2 := Lib.hid (HH1.out.below hb2)
  have HR2 : Hid (RS w2 g B st) := HR1.out.below hb2
  rw [HRF.out]
  clear hb2 g0 HH1 HR1 HRF
  cases han : l.any (takenB st.sp)
  · have HAN := Lib.hid han
    have g2 := HH2.out.c2
    have f2 := HH2.out.fr 2
    clear han
    go_upto_region 8 with fail
    have HBK : Hid ((w2.setCell ⟨g, 2, none⟩ (.int .i64 ((st.last : Int) + 1))).heap[g]? = some (.cells #[.slice oa st.op.length oc, .slice sa st.sp.length sc, .int .i64 ((st.last : Int) + 1)] 58 (0, 0))) := by
      have := HH2.out.blk
      show _ = _
      simp [World.setCell, Array.getElem?_modify, this]
    have hG3 : Hid (w2.grownBy (w2.setCell ⟨g, 2, none⟩ (.int .i64 ((st.last : Int) + 1))) (some g)) := grown_setCell _ _ _ _
    generalize w2.setCell ⟨g, 2, none⟩ (.int .i64 ((st.last : Int) + 1)) = w3 at *
    have HU3 : Hid (Upd (Gb g) w2 w3) := Upd.of_row hG3.out (fun b e => by cases e; rfl)
    have HH3 : Hid (RefC w3 g oa oc sa sc E ⟨st.sp, st.last + 1, st.op⟩) := by
      refine ⟨HBK.out, HH2.out.opn.upd HU3.out (fun b arr ty x hb hty => HH2.out.not_g hb (by rcases hty with rfl | rfl <;> decide)), HH2.out.ops, HH2.out.sps.upd HU3.out (fun b arr x hb => HH2.out.not_g hb (by decide)), HH2.out.cap⟩
    have g2 := HH3.out.c2
    have HS1 := Lib.hid (set_any w3 g oa sa oc sc E ⟨st.sp, st.last + 1, st.op⟩ l pa m mc 1 ((st.last : Int) + 1) HH3.out hm hsp (by have := hchs.out.1; have := HLM.out; omega) hchs.out.2.1 (HL.out w3 ((Upd.of_below HB2.out).trans HU3.out)))
    have hc2 : ((st.last + 1 : Nat) : Int) = (st.last : Int) + 1 := by omega
    dsimp only at g2
    rw [hc2] at g2
    clear f2 hG3 HBK hc2
    go_wp2_with fail
    refine HS1.out.mono ?_
    rintro e w4 ⟨sa', sc', rfl, hh4, hu4, hfr4⟩
    have HH4 := Lib.hid hh4
    have HU4 : Hid (Upd (Gb g) w w4) := (Upd.of_below HB2.out).trans (HU3.out.trans hu4)
    have k0 := hh4.c0
    have k2 := hh4.c2
    dsimp only at k0 k2
    have hc2 : ((st.last + 1 : Nat) : Int) = (st.last : Int) + 1 := by omega
    rw [hc2] at k2
    have HKEEP : Hid (∀ wx, Below w4.heap.size w4 wx → wx.cell? ⟨g, 0, none⟩ = some (.slice oa st.op.length oc) ∧ wx.cell? ⟨g, 2, none⟩ = some (.int .i64 ((st.last : Int) + 1))) := fun wx hb => ⟨Below.cell_of hb k0, Below.cell_of hb k2⟩
    have HEO : Hid (Recs OwnE w4 oa st.op.length E) := by have := hh4.opn.recs; rw [hh4.elen] at this; exact this
    have HL4 : Hid (Ints w4 pa m l) := HL.out w4 HU4.out
    have hm1 : 1 ≤ m := by have := hchs.out.1; have := HLM.out; omega
    have HFR4 : Hid (∀ b o, sa' = some ⟨b, o, none⟩ → B ≤ b) := fun b o e => Nat.le_trans (Nat.le_trans HBW.out ((Upd.of_below HB2.out).trans HU3.out).size) (hfr4 b o e)
    clear hh4 hu4 HS1 g2 hc2 hfr4
    go_upto_region 9 with fail
    refine wp_region_held_drew (S := fun w' => w'.cell? ⟨g, 2, none⟩ = some (.int .i64 ((st.last : Int) + 1))) (by kernel_rfl) k2 (fun hHeld => ?_)
    clear k0 k2
    refine take_at (i := 0) (v := ?_) 69 rfl rfl (by kernel_rfl) (by kernel_rfl) (by kernel_rfl) (fun _ _ _ h => h) (Or.inl ⟨by rfl, ?_⟩) (by assumption) ?_
    rotate_left
    · intro w hSw; go_simp <;> with_reducible rfl
    try simp only [Act.put, List.setIfInBounds_toArray, List.set_cons_zero, List.set_cons_succ]
    refine take_at (i := 2) (v := ?_) 71 rfl rfl (by kernel_rfl) (by kernel_rfl) (by kernel_rfl) (fun _ _ _ h => h) (Or.inl ⟨by rfl, ?_⟩) (by assumption) ?_
    rotate_left
    · intro w hSw; go_simp <;> with_reducible rfl
    try simp only [Act.put, List.setIfInBounds_toArray, List.set_cons_zero, List.set_cons_succ]
    refine take_at (i := 3) (v := ?_) 72 rfl rfl (by kernel_rfl) (by kernel_rfl) (by kernel_rfl) (fun _ _ _ h => h) (Or.inl ⟨by rfl, ?_⟩) (by assumption) ?_
    rotate_left
    · intro w hSw; go_simp <;> with_reducible rfl
    try simp only [Act.put, List.setIfInBounds_toArray, List.set_cons_zero, List.set_cons_succ]
    refine take_at (i := 4) (v := ?_) 73 rfl rfl (by kernel_rfl) (by kernel_rfl) (by kernel_rfl) (fun _ _ _ h => h) (Or.inl ⟨by rfl, ?_⟩) (by assumption) ?_
    rotate_left
    · intro w hSw; go_simp <;> with_reducible rfl
    try simp only [Act.put, List.setIfInBounds_toArray, List.set_cons_zero, List.set_cons_succ]
    refine take_at (i := 7) (v := ?_) 76 rfl rfl (by kernel_rfl) (by kernel_rfl) (by kernel_rfl) (fun _ _ _ h => h) (Or.inl ⟨by rfl, ?_⟩) (by assumption) ?_
    rotate_left
    · intro w hSw; go_simp <;> with_reducible rfl
    try simp only [Act.put, List.setIfInBounds_toArray, List.set_cons_zero, List.set_cons_succ]
    refine take_at (i := 8) (v := ?_) 77 rfl rfl (by kernel_rfl) (by kernel_rfl) (by kernel_rfl) (fun _ _ _ h => h) (Or.inl ⟨by rfl, ?_⟩) (by assumption) ?_
    rotate_left
    · intro w hSw; go_simp <;> with_reducible rfl
    try simp only [Act.put, List.setIfInBounds_toArray, List.set_cons_zero, List.set_cons_succ]
    refine take_at (i := 9) (v := ?_) 78 rfl rfl (by kernel_rfl) (by kernel_rfl) (by kernel_rfl) (fun _ _ _ h => h) (Or.inl ⟨by rfl, ?_⟩) (by assumption) ?_
    rotate_left
    · intro w hSw; go_simp <;> with_reducible rfl
    try simp only [Act.put, List.setIfInBounds_toArray, List.set_cons_zero, List.set_cons_succ]
    refine take_at (i := 10) (v := ?_) 79 rfl rfl (by kernel_rfl) (by kernel_rfl) (by kernel_rfl) (fun _ _ _ h => h) (Or.inl ⟨by rfl, ?_⟩) (by assumption) ?_
    rotate_left
    · intro w hSw; go_simp <;> with_reducible rfl
    try simp only [Act.put, List.setIfInBounds_toArray, List.set_cons_zero, List.set_cons_succ]
    refine take_at (i := 11) (v := ?_) 80 rfl rfl (by kernel_rfl) (by kernel_rfl) (by kernel_rfl) (fun _ _ _ h => h) (Or.inl ⟨by rfl, ?_⟩) (by assumption) ?_
    rotate_left
    · intro w hSw; go_simp <;> with_reducible rfl
    try simp only [Act.put, List.setIfInBounds_toArray, List.set_cons_zero, List.set_cons_succ]
    refine take_at (i := 13) (v := ?_) 82 rfl rfl (by kernel_rfl) (by kernel_rfl) (by kernel_rfl) (fun _ _ _ h => h) (Or.inl ⟨by rfl, ?_⟩) (by assumption) ?_
    rotate_left
    · intro w hSw; go_simp <;> with_reducible rfl
    try simp only [Act.put, List.setIfInBounds_toArray, List.set_cons_zero, List.set_cons_succ]
    refine take_at (i := 15) (v := ?_) 84 rfl rfl (by kernel_rfl) (by kernel_rfl) (by kernel_rfl) (fun _ _ _ h => h) (Or.inl ⟨by rfl, ?_⟩) (by assumption) ?_
    rotate_left
    · intro w hSw; go_simp <;> with_reducible rfl
    try simp only [Act.put, List.setIfInBounds_toArray, List.set_cons_zero, List.set_cons_succ]
    refine take_at (i := 16) (v := ?_) 85 rfl rfl (by kernel_rfl) (by kernel_rfl) (by kernel_rfl) (fun _ _ _ h => h) (Or.inl ⟨by rfl, ?_⟩) (by assumption) ?_
    rotate_left
    · intro w hSw; go_simp <;> with_reducible rfl
    try simp only [Act.put, List.setIfInBounds_toArray, List.set_cons_zero, List.set_cons_succ]
    refine wpAnyH_effects0 [(1, 70), (6, 75), (12, 81), (14, 83), (17, 86), (18, 87), (5, 74)] [[], [0, 6], [], [2], [3], [4], []] (FT w4.heap.size st.op.length (.slice oa st.op.length oc) E ((st.last : Int) + 1) t l til cls) (bkT st.op.length) _ _ 4 _ ?dist ?ready FT.below hHeld ?step ?fin
    case dist => decide
    case ready => kernel_rfl
    case step =>
      intro k' e v w5 hk3 he hSw hbw3 hneed
      have hb5 : Below w4.heap.size w4 w5 := (Below.refl _ _).drew.trans hbw3
      have hs5 := hb5.size
      rcases k' with _ | _ | _ | _ | _ | _ | _ | k'
      all_goals simp only [List.getElem?_cons_zero, List.getElem?_cons_succ, List.getElem?_nil, Option.some.injEq, reduceCtorEq] at he
      all_goals subst he
      · clear hneed
        refine wpOp_step rfl (fun K' hK => ?_)
        simp only [putAll, Act.put, List.setIfInBounds_toArray, List.set_cons_zero, List.set_cons_succ]
        go_simp
        have hb : Below w5.heap.size w5 (w5.alloc (.cells #[] 51)) := Joins.below_alloc1 w5 _
        have how := World.ownsRow_made (e := 51) (size := 6) w5 #[] 0 (Nat.le_refl _) (by unfold maxLen; omega) rfl
        exact hK _ _ ⟨.slice (some ⟨w5.heap.size, 0, none⟩) 0 0, by simp only [putAll, Act.put, List.setIfInBounds_toArray, List.set_cons_zero, List.set_cons_succ], (HKEEP.out _ (hb5.trans (hb.mono hs5))).2, hb, ⟨row_base hs5 how, _, rfl⟩, fun b hbk => by simp [bkT] at hbk⟩
      · obtain ⟨how, b1, hv1⟩ : FT w4.heap.size st.op.length (.slice oa st.op.length oc) E ((st.last : Int) + 1) t l til cls 0 (v 0) w5 := hneed 0 (by simp)
        rw [hv1] at how
        have hv6 : v 6 = .slice oa st.op.length oc := hneed 6 (by simp)
        obtain ⟨u, w', hr, hb, ho, hf1, hf2⟩ := copy_holds w5 w4.heap.size b1 oa st.op.length oc E hs5 (by omega) (HEO.out.below hb5) how
        refine wpOp_step rfl (fun K' hK => ?_)
        refine step_append_w (by simp only [putAll, Act.put, List.setIfInBounds_toArray, List.set_cons_zero, List.set_cons_succ]; rfl) (.tmp 70) (.tmp 74) 47 rfl 47 rfl hr ?_ ?_ ?_
        · simp only [putAll, Act.put, List.setIfInBounds_toArray, List.set_cons_zero, List.set_cons_succ]
          exact hv1
        · simp only [putAll, Act.put, List.setIfInBounds_toArray, List.set_cons_zero, List.set_cons_succ]
          exact hv6
        · refine hK _ _ ⟨u, rfl, (HKEEP.out _ (hb5.trans (hb.mono hs5))).2, hb, ⟨ho, fun h => ⟨b1, hf2 h⟩⟩, fun b hbk => ?_⟩
          unfold bkT at hbk
          by_cases h0 : st.op.length = 0
          · simp [h0] at hbk
          · simp only [h0, if_false] at hbk
            exact ⟨hf1 h0 b hbk, row_lt ho hbk⟩
      · clear hneed
        refine wpOp_step rfl (fun K' hK => ?_)
        simp only [putAll, Act.put, List.setIfInBounds_toArray, List.set_cons_zero, List.set_cons_succ]
        go_simp
        have hb : Below w5.heap.size w5 (w5.alloc (.cells #[] 3)) := Joins.below_alloc1 w5 _
        have how := World.ownsRow_made (e := 3) (size := 1) w5 #[] 0 (Nat.le_refl _) (by unfold maxLen; omega) rfl
        exact hK _ _ ⟨.slice (some ⟨w5.heap.size, 0, none⟩) 0 0, by simp only [putAll, Act.put, List.setIfInBounds_toArray, List.set_cons_zero, List.set_cons_succ], (HKEEP.out _ (hb5.trans (hb.mono hs5))).2, hb, ⟨row_base hs5 how, _, rfl⟩, fun b hbk => by simp [bkT] at hbk⟩
      · obtain ⟨how, b1, hv1⟩ : FT w4.heap.size st.op.length (.slice oa st.op.length oc) E ((st.last : Int) + 1) t l til cls 2 (v 2) w5 := hneed 2 (by simp)
        rw [hv1] at how
        obtain ⟨b', c', w', hr, hb, hir, _⟩ := copy_nums w5 w4.heap.size b1 pa m mc l hs5 (by omega) hm1 (HL4.out.below hb5) how
        refine wpOp_step rfl (fun K' hK => ?_)
        refine step_append_w (by simp only [putAll, Act.put, List.setIfInBounds_toArray, List.set_cons_zero, List.set_cons_succ]; rfl) (.tmp 81) (.tmp 82) 29 rfl 29 rfl hr ?_ rfl ?_
        · simp only [putAll, Act.put, List.setIfInBounds_toArray, List.set_cons_zero, List.set_cons_succ]
          exact hv1
        · exact hK _ _ ⟨.slice (some ⟨b', 0, none⟩) m c', rfl, (HKEEP.out _ (hb5.trans (hb.mono hs5))).2, hb, ⟨b', c', by rw [HLM.out], hir⟩, fun b hbk => by simp [bkT] at hbk⟩
      · obtain ⟨b3, c3, hv3, hir⟩ : FT w4.heap.size st.op.length (.slice oa st.op.length oc) E ((st.last : Int) + 1) t l til cls 3 (v 3) w5 := hneed 3 (by simp)
        refine wpOp_step rfl (fun K' hK => ?_)
        simp only [putAll, Act.put, List.setIfInBounds_toArray, List.set_cons_zero, List.set_cons_succ]
        rw [hv3]
        go_simp
        refine hK _ _ ⟨.agg #[.int .i64 ((st.last : Int) + 1), .string (bs t), .int .i64 0, .slice (some ⟨b3, 0, none⟩) l.length c3, .int .i64 til, .int .i64 cls], by simp only [putAll, Act.put, List.setIfInBounds_toArray, List.set_cons_zero, List.set_cons_succ]; try rw [hv3], hSw, Below.refl _ _, ⟨b3, c3, rfl, hir⟩, fun b hbk => by simp [bkT] at hbk⟩
      · obtain ⟨b4, c4, hv4, hir⟩ : FT w4.heap.size st.op.length (.slice oa st.op.length oc) E ((st.last : Int) + 1) t l til cls 4 (v 4) w5 := hneed 4 (by simp)
        refine wpOp_step rfl (fun K' hK => ?_)
        simp only [putAll, Act.put, List.setIfInBounds_toArray, List.set_cons_zero, List.set_cons_succ]
        rw [hv4]
        go_simp
        have hb : Below w5.heap.size w5 (w5.alloc (.cells #[.int .i64 ((st.last : Int) + 1), .string (bs t), .int .i64 0, .slice (some ⟨b4, 0, none⟩) l.length c4, .int .i64 til, .int .i64 cls] 51)) := Joins.below_alloc1 w5 _
        refine hK _ _ ⟨.slice (some ⟨w5.heap.size, 0, none⟩) 1 1, by simp only [putAll, Act.put, List.setIfInBounds_toArray, List.set_cons_zero, List.set_cons_succ]; try rw [hv4], (HKEEP.out _ (hb5.trans (hb.mono hs5))).2, hb, ⟨_, b4, c4, rfl, hir.below hb, World.alloc_heap_new w5 _⟩, fun b hbk => by simp [bkT] at hbk⟩
      · clear hneed
        have hcell := (HKEEP.out w5 hb5).1
        refine wpOp_step rfl (fun K' hK => ?_)
        simp only [putAll, Act.put, List.setIfInBounds_toArray, List.set_cons_zero, List.set_cons_succ]
        go_simp
        exact hK _ _ ⟨.slice oa st.op.length oc, by simp only [putAll, Act.put, List.setIfInBounds_toArray, List.set_cons_zero, List.set_cons_succ], hSw, Below.refl _ _, rfl, fun b hbk => by simp [bkT] at hbk⟩
    case fin =>
      intro v w5 hS5 hI
      have F1 : FT w4.heap.size st.op.length (.slice oa st.op.length oc) E ((st.last : Int) + 1) t l til cls 1 (v 1) w5 := hI.fact 1 (by decide) rfl
      obtain ⟨b2, b, c, f5, hir, hbx⟩ : FT w4.heap.size st.op.length (.slice oa st.op.length oc) E ((st.last : Int) + 1) t l til cls 5 (v 5) w5 := hI.fact 5 (by decide) rfl
      have hB2 : ∀ r, bkT st.op.length 1 (v 1) = some r → w4.heap.size ≤ r := fun r h => (hI.blk 1 r (by decide) rfl h).1
      have hb5 : Below w4.heap.size w4 w5 := (Below.refl _ _).drew.trans hI.below
      have hone : Recs OwnE w5 (some ⟨b2, 0, none⟩) 1 [((((st.last : Int) + 1), t, l, til, cls), (some ⟨b, 0, none⟩, c))] := one_back hbx rfl rfl
      obtain ⟨u, w6, hr, ho6, hg6⟩ := join_holds w5 w4.heap.size st.op.length (v 1) E [((((st.last : Int) + 1), t, l, til, cls), (some ⟨b, 0, none⟩, c))] ⟨b2, 0, none⟩ 1 1 hb5.size (by omega) (by omega) hone F1.1 F1.2
      obtain ⟨br, cu, rfl, hcu, hbr, hjunk, hrr⟩ := RecRow.of_row (E := OwnE) (xs := E ++ [((((st.last : Int) + 1), t, l, til, cls), (some ⟨b, 0, none⟩, c))]) (n := st.op.length + 1) (Nat.succ_pos _) ho6
      have hb6 : Below w4.heap.size w4 w6 := hb5.grown hg6 hb5.size hB2
      simp only [putAll, Act.put, List.setIfInBounds_toArray, List.set_cons_zero, List.set_cons_succ]
      have F6 : v 6 = .slice oa st.op.length oc := hI.fact 6 (by decide) rfl
      rw [f5, F6]
      have HIR : Hid (IntRow w6 b 3 l) := by
        obtain ⟨arr, ha, r⟩ := hir
        refine ⟨arr, (hg6.block b (lt_of_block ha) (fun e => ?_)).trans ha, r⟩
        by_cases h0 : st.op.length = 0
        · rw [if_pos h0] at e; cases e
        · rw [if_neg h0] at e
          obtain ⟨g', c', e1, hty⟩ : ∃ g' c', v 1 = .slice (some ⟨g', 0, none⟩) st.op.length c' ∧ ∃ cur, w5.heap[g']? = some (.cells cur 51 (0, 0)) := by
            rcases F1.1.2 with ⟨_, h⟩ | ⟨g', cap, cur, e1, _, hh, _⟩
            · exact absurd h h0
            · exact ⟨g', cap, e1, cur, hh⟩
          obtain ⟨cur, hh⟩ := hty
          rw [e1] at e
          have eb : b = g' := by simpa [Value.ownBlock] using e
          subst eb
          rw [ha] at hh
          simp only [Option.some.injEq, Obj.cells.injEq] at hh
          exact absurd hh.2.1 (by decide)
      clear F1 f5 hI hB2 hbx hone hg6 hir
      refine wpAnyH_ready (rs := [19]) (by kernel_rfl) (by simp) ?_
      refine AllReadyH.cons rfl (fun K' hK => ?_) AllReadyH.nil
      refine step_append_w (by rfl) (.tmp 75) (.tmp 87) 47 rfl 47 rfl hr rfl rfl ?_
      refine hK.out _ _ ((HKEEP.out w6 hb6).2) (fun hHeld => ?_)
      clear hK K' hr
      try simp only [Act.put, List.setIfInBounds_toArray, List.set_cons_zero, List.set_cons_succ]
      have HH6 := Lib.hid (HH4.out.below hb6)
      have HB6 := Lib.hid hb6
      have HOU := Lib.hid hrr
      have HBR := Lib.hid hbr
      have HCU := Lib.hid hcu
      have z0 := HH6.out.c0
      have f0 := HH6.out.fr 0
      clear hrr hbr hcu hjunk ho6 hb5 hb6
      refine take_at (i := 20) (v := ?_) 89 rfl rfl (by kernel_rfl) (by kernel_rfl) (by kernel_rfl) (fun _ _ _ h => h) (Or.inl ⟨by rfl, ?_⟩) (by assumption) ?_
      rotate_left
      · intro w hSw; go_simp <;> with_reducible rfl
      try simp only [Act.put, List.setIfInBounds_toArray, List.set_cons_zero, List.set_cons_succ]
      refine take_at (i := 21) (v := ?_) 90 rfl rfl (by kernel_rfl) (by kernel_rfl) (by kernel_rfl) (fun _ _ _ h => h) (Or.inl ⟨by rfl, ?_⟩) (by assumption) ?_
      rotate_left
      · intro w hSw; go_simp <;> with_reducible rfl
      try simp only [Act.put, List.setIfInBounds_toArray, List.set_cons_zero, List.set_cons_succ]
      have HBK : Hid ((w6.setCell ⟨g, 0, none⟩ (.slice (some ⟨br, 0, none⟩) (st.op.length + 1) cu)).heap[g]? = some (.cells #[.slice (some ⟨br, 0, none⟩) (st.op.length + 1) cu, .slice sa' st.sp.length sc', .int .i64 ((st.last : Int) + 1)] 58 (0, 0))) := by
        have := HH6.out.blk
        dsimp only at this
        rw [mark_len] at this
        have hc2 : ((st.last + 1 : Nat) : Int) = (st.last : Int) + 1 := by omega
        rw [hc2] at this
        show _ = _
        simp [World.setCell, Array.getElem?_modify, this]
      have hG7 : Hid (w6.grownBy (w6.setCell ⟨g, 0, none⟩ (.slice (some ⟨br, 0, none⟩) (st.op.length + 1) cu)) (some g)) := grown_setCell _ _ _ _
      refine wpAnyH_ready (rs := [22]) (by kernel_rfl) (by simp) ?_
      refine AllReadyH.cons rfl (fun K' hK => ?_) AllReadyH.nil
      go_simp
      generalize w6.setCell ⟨g, 0, none⟩ (.slice (some ⟨br, 0, none⟩) (st.op.length + 1) cu) = w7 at *
      have HS7 : Hid (w7.cell? ⟨g, 2, none⟩ = some (.int .i64 ((st.last : Int) + 1))) := by
        show _ = _
        rw [cell_of_row _ _ _ _ _ _ HBK.out]; rfl
      go_simp
      refine hK.out _ _ (HS7.out) (fun hHeld => ?_)
      clear hK K'
      try simp only [Act.put, List.setIfInBounds_toArray, List.set_cons_zero, List.set_cons_succ]
      refine wpAnyH_done (by kernel_rfl) ?_ _
      clear hHeld
      have g7 := HS7.out
      have HU67 : Hid (Upd (Gb g) w6 w7) := Upd.of_row hG7.out (fun b e => by cases e; rfl)
      have HU7 : Hid (Upd (Gb g) w w7) := HU4.out.trans ((Upd.of_below HB6.out).trans HU67.out)
      have HL7 : Hid (HLst w7 (some ⟨br, 0, none⟩) (E ++ [((((st.last : Int) + 1), t, l, til, cls), (some ⟨b, 0, none⟩, c))])) := by
        refine ⟨fun _ => ⟨br, rfl, HOU.out.grown hG7.out (fun e => ?_)⟩, fun x hx => ?_⟩
        · have h1 := lt_of_block HH4.out.blk
          have h2 := HBR.out
          have h3 : br = g := by simpa using e
          omega
        · rcases List.mem_append.mp hx with hx | hx
          · exact (HH6.out.opn.upd HU67.out (fun b' arr ty x hb hty => HH6.out.not_g hb (by rcases hty with rfl | rfl <;> decide))).2 x hx
          · rw [List.mem_singleton.mp hx]
            obtain ⟨arr, ha, r⟩ := HIR.out
            refine ⟨b, rfl, trivial, arr, (HU67.out.block b (lt_of_block ha) (HH6.out.not_g ha (by decide))).trans ha, r⟩
      have HH7 : Hid (RefC w7 g (some ⟨br, 0, none⟩) cu sa' sc' (E ++ [((((st.last : Int) + 1), t, l, til, cls), (some ⟨b, 0, none⟩, c))]) ⟨markS st.sp l (1, (st.last : Int) + 1), st.last + 1, st.op ++ [((st.last : Int) + 1, t, l, til, cls)]⟩) := by
        refine ⟨?_, HL7.out, ?_, HH6.out.sps.upd HU67.out (fun b' arr x hb => HH6.out.not_g hb (by decide)), ?_⟩
        · rw [HBK.out]
          dsimp only
          have hcast : ((st.last + 1 : Nat) : Int) = (st.last : Int) + 1 := by omega
          rw [mark_len, hcast, List.length_append]
          rfl
        · rw [List.map_append, HH6.out.ops]
          rfl
        · dsimp only
          rw [List.length_append]
          exact HCU.out
      clear HS7 HU67 HBK HH6 HIR HB6 HOU hG7 HL7 HBR HCU HKEEP HEO HL4 HH4 hS5 z0 f0
      go_wp2_with fail
      go_ret2
      have hS : takeS st true t l til cls = ((((st.last + 1 : Nat) : Int), 0), ⟨markS st.sp l (1, ((st.last + 1 : Nat) : Int)), st.last + 1, st.op ++ [(((st.last + 1 : Nat) : Int), t, l, til, cls)]⟩) := by
        unfold takeS
        rw [if_neg (by rw [HOK.out]; simp), if_neg h4, if_neg (by rw [HAN.out]; simp)]
      have hI := take_inv HI.out true t l til cls
      have hcast : ((st.last + 1 : Nat) : Int) = (st.last : Int) + 1 := by omega
      rw [hS] at hI ⊢
      dsimp only at hI ⊢
      rw [hcast] at hI ⊢
      exact ⟨rfl, ⟨Nat.le_trans HBW.out HU7.out.size, hI, _, _, _, _, _, HH7.out, HFR4.out⟩, HU7.out⟩
  · have HS : Hid (takeS st true t l til cls = ((0, 16), st)) := by
      show _ = _
      unfold takeS
      rw [if_neg (by rw [HOK.out]; simp), if_neg h4, if_pos han]
    clear han
    go_wp2_with fail
    go_ret2
    exact ⟨by rw [HS.out]; rfl, by rw [HS.out]; exact HR2.out, Upd.of_below HB2.out⟩
end Go.Proofs.YtkdbenoleendcaaGreatDoor
