/- merge: slices.Grow, slices.Concat, Merge: the walks. -/
import Derived.Test.YtpmoelkblngamaaQMMR17
import Derived.Lib.AppendZeros
import Derived.Laws.OwnMore

namespace Go.Proofs.Ytpmoelkblngamaa
open Go.RowKit Go.IntWalk Go.Maps Go.WideMaps

theorem scn_info : ∃ i, Try.prog.info? 39 = some i ∧ i.zero = some (.agg #[.int .i64 0, .int .i64 0, .int .i64 0, .int .i64 0, .int .i64 0, .string (bs [])]) ∧ i.size = 6 ∧ i.bytes = 56 := info_parts' info_scn
theorem blm_info : ∃ i, Try.prog.info? 48 = some i ∧ i.zero = some (.agg #[.int .i64 0, .int .i64 0, .int .i64 0, .int .i64 0, .int .i64 0, .int .i64 0]) ∧ i.size = 6 ∧ i.bytes = 48 := info_parts' info_blm

/-- Scans that are appended to an own list. -/
theorem run_append_scs {w : World} {base n : Nat} {v u : Value} {xs l : List Scn} (ty : TypeId) (hown : w.ownsRow base 39 6 v n (flat ScnE xs)) (hu : Scs w u l) (h63 : n + l.length ≤ 1000000) (hbase : base ≤ w.heap.size) :
    ∃ v' w', (Builtin.append_ #[22, 22] ty #[v, u]).run Try.prog w = .ok v' w' ∧ w'.ownsRow base 39 6 v' (n + l.length) (flat ScnE (xs ++ l)) ∧ w.grownBy w' v.ownBlock ∧ (v'.ownBlock = v.ownBlock ∨ v'.ownBlock = some w.heap.size) := by
  obtain ⟨i, hi, hz, hs, hb⟩ := scn_info
  obtain ⟨la, c, rfl, hr, hc⟩ := hu
  cases la with
  | none =>
    have hl : l.length = 0 := by
      rcases Nat.eq_zero_or_pos l.length with h | h
      · exact h
      · obtain ⟨b, o, e, _⟩ := hr.2 0 h; cases e
    obtain rfl := List.length_eq_zero_iff.mp hl
    rw [hc rfl, List.append_nil]
    exact ⟨v, w, run_append_owned_none w base _ _ _ i 6 Try.underlying22 hi v n _ hown, hown, ⟨rfl, rfl, rfl, Nat.le_refl _, fun _ _ _ => rfl⟩, Or.inl rfl⟩
  | some ad =>
    obtain ⟨v', w', h1, h2, h3, _, h5⟩ := run_append_own_at (P := Try.prog) (w := w) base 22 ty 39 i _ 6 56 Try.underlying22 hi hz hs hb rfl (by decide) v n (flat ScnE xs) hown ad l.length c (flat ScnE l) (by rw [flat_len]) (flat_cells hr) flat_one (by unfold maxLen; omega) (by omega) hbase
    rw [← flat_append] at h2
    exact ⟨v', w', h1, h2, h3, h5⟩

theorem wpList_append_scs {w : World} {ops : Array Oper} {rest : List Oper} {o : Oper} {a : Act} {Q : Exit → Act → World → Prop} (hgd : o.guard = none) (s x : Operand) (ho : o.op = .call { callee := .builtin .append, args := #[s, x], argTypes := #[22, 22] })
    {base n : Nat} {v u : Value} {xs l : List Scn} (hs : a.eval s = v) (hx : a.eval x = u) (hown : w.ownsRow base 39 6 v n (flat ScnE xs)) (hu : Scs w u l) (h63 : n + l.length ≤ 1000000) (hbase : base ≤ w.heap.size)
    (h : ∀ v' w', w'.ownsRow base 39 6 v' (n + l.length) (flat ScnE (xs ++ l)) → w.grownBy w' v.ownBlock → (v'.ownBlock = v.ownBlock ∨ v'.ownBlock = some w.heap.size) → wpList Try.prog ops Q rest (a.put o.dst v') w') : wpList Try.prog ops Q (o :: rest) a w := by
  obtain ⟨v', w', hr, h1, h2, h3⟩ := run_append_scs o.type hown hu h63 hbase
  exact Lib.wpList_append_run w hgd s x _ _ ho v u hs hx v' w' hr (h v' w' h1 h2 h3)

set_option maxRecDepth 10000 in
theorem grow_any (n : Nat) (w : World) (hn : n ≤ 1000000) : Calls Try.prog 49 #[.slice none 0 0, .int .i64 n] w fun e w' => ∃ v, e = .returned v ∧ w'.ownsRow w.heap.size 39 6 v 0 [] ∧ Below w.heap.size w w' := by
  obtain ⟨i, hi, hz, hs, hb⟩ := scn_info
  by_cases h0 : n = 0
  · subst h0
    go_enter Try.func49, Try.ntmps49
    go_wp2_with fail
    go_ret
    exact ⟨_, rfl, ⟨rfl, Or.inl ⟨rfl, rfl⟩⟩, Below.refl _ _⟩
  · have hrun := fun ty => Lib.run_append_nil_zeros (P := Try.prog) w 22 3 ty 39 i _ .i64 .i64 Try.underlying22 Try.underlying3 hi hz n (by omega) (by omega) (by omega) (by rw [hb]; omega)
    have HG1 : Hid (n ≤ grownCap w n 0 39) := grownCap_ge _ _ _ _
    have HG2 : Hid (grownCap w n 0 39 ≤ maxLen) := grownCap_le_maxLen _ _ _ _ (by unfold maxLen; omega)
    have HR := Lib.hid hrun
    obtain ⟨m, hm⟩ : ∃ m, grownCap w n 0 39 = m := ⟨_, rfl⟩
    rw [hm] at HG1 HG2 HR
    clear hrun hm hi hz hs hb
    go_enter Try.func49, Try.ntmps49
    go_wp2_with (at_builtin; refine Lib.wpList_append_run _ rfl (.tmp 20) (.tmp 21) 22 3 rfl _ _ rfl rfl _ _ (HR.out _) ?_)
    go_ret
    refine ⟨_, rfl, ⟨rfl, Or.inr ⟨w.heap.size, m, _, rfl, Nat.le_refl _, World.alloc_heap_new w.drew _, Nat.zero_le _, HG2.out, ?_, rfl⟩⟩, (Below.refl _ _).drew.alloc (Nat.le_refl _) _⟩
    have := HG1.out
    simp [Builtin.zeroCells]
    omega

/-- Some logs. -/
def LogsAt (w : World) (ra : Option Addr) (n : Nat) (Ls : List (List Scn)) : Prop := Ls.length = n ∧ ∀ i, i < n → ∃ b o u, ra = some ⟨b, o, none⟩ ∧ w.cell? ⟨b, o + i, none⟩ = some u ∧ Scs w u (Ls.getD i [])
theorem LogsAt.below {w w' : World} {ra : Option Addr} {n : Nat} {Ls : List (List Scn)} (h : LogsAt w ra n Ls) (hb : Below w.heap.size w w') : LogsAt w' ra n Ls :=
  ⟨h.1, fun i hi => let ⟨b, o, u, e, c, s⟩ := h.2 i hi; ⟨b, o, u, e, Below.cell_of hb c, s.below hb⟩⟩

def sumL (Ls : List (List Scn)) : Nat := Ls.flatten.length

theorem flat_take {Ls : List (List Scn)} {i : Nat} (h : i < Ls.length) : (Ls.take (i + 1)).flatten = (Ls.take i).flatten ++ Ls.getD i [] := by
  rw [List.take_succ_eq_append_getElem h, List.flatten_append, List.getD_eq_getElem?_getD, List.getElem?_eq_getElem h]
  simp
theorem flat_le (Ls : List (List Scn)) (i : Nat) : (Ls.take i).flatten.length ≤ sumL Ls := by
  unfold sumL
  conv => rhs; rw [← List.take_append_drop i Ls, List.flatten_append, List.length_append]
  omega

set_option maxRecDepth 10000 in
set_option maxHeartbeats 1600000 in
theorem concat_any (ra : Option Addr) (n c : Nat) (Ls : List (List Scn)) (w : World) (h : LogsAt w ra n Ls) (hn : n ≤ 1000) (hs : sumL Ls ≤ 100000) :
    Calls Try.prog 28 #[.slice ra n c] w fun e w' => ∃ v, e = .returned v ∧ w'.ownsRow w.heap.size 39 6 v (sumL Ls) (flat ScnE Ls.flatten) ∧ Below w.heap.size w w' := by
  have HL := Lib.hid h
  have hlen := h.1
  clear h
  go_enter Try.func28, Try.ntmps28
  go_wp2_with fail
  go_loopw [3, 11] (fun v3 v11 wr => ∃ i : Nat, v11 = .int .i64 i ∧ v3 = .int .i64 ((Ls.take i).flatten.length : Nat) ∧ w = wr ∧ i ≤ n) (fun _ v11 _ => n - (intOf v11).toNat)
  case atStart => exact ⟨0, rfl, rfl, rfl, Nat.zero_le _⟩
  case round =>
    obtain ⟨i, rfl, rfl, rfl, hi⟩ := hrel
    by_cases hlt : i < n
    · obtain ⟨b, o, u, rfl, c0, hsc⟩ := HL.out.2 i hlt
      obtain ⟨la, cc, rfl, _⟩ := hsc
      have hf := congrArg List.length (flat_take (Ls := Ls) (i := i) (by omega))
      rw [List.length_append] at hf
      have hfl := flat_le Ls (i + 1)
      have HF := Lib.hid hf
      rw [hf] at hfl
      clear hf
      generalize (Ls.take i).flatten.length = p at *
      generalize (Ls.getD i []).length = q at *
      go_wp2_with fail
      go_roundw
      case rel => exact ⟨i + 1, by go_num, by rw [HF.out]; go_num, trivial, hlt⟩
      case measure => simp [intOf]; omega
    · have hi' : i = n := by omega
      subst hi'
      have HT : Hid ((Ls.take i).flatten.length = sumL Ls) := by
        show _ = _
        rw [List.take_of_length_le (by omega)]
        rfl
      rw [HT.out]
      go_wp2_with fail
      refine (grow_any (sumL Ls) w (by omega)).mono ?_
      rintro e w1 ⟨v, rfl, ho, hb⟩
      have HO := Lib.hid ho
      have HB := Lib.hid hb
      clear ho hb
      go_wp2_with fail
      go_loopw [6, 27] (fun v6 v27 wr => ∃ j : Nat, v27 = .int .i64 j ∧ j ≤ i ∧ Hid (wr.ownsRow w.heap.size 39 6 v6 (Ls.take j).flatten.length (flat ScnE (Ls.take j).flatten)) ∧ Hid (Below w.heap.size w wr)) (fun _ v27 _ => i - (intOf v27).toNat)
      case atStart => exact ⟨0, rfl, Nat.zero_le _, HO.out, HB.out⟩
      case round =>
        clear HO HB
        obtain ⟨j, rfl, hj, HO, HB⟩ := hrel
        by_cases hlt2 : j < i
        · obtain ⟨b, o, u, rfl, c0, hsc⟩ := (HL.out.below HB.out).2 j hlt2
          have HSC := Lib.hid hsc
          have hf := flat_take (Ls := Ls) (i := j) (by omega)
          have hfl := flat_le Ls (j + 1)
          rw [hf, List.length_append] at hfl
          have HF := Lib.hid hf
          clear hsc hf
          go_wp2_with (at_builtin; refine wpList_append_scs rfl (.tmp 31) (.tmp 32) rfl rfl rfl HO.out HSC.out (by omega) HB.out.size ?_; intro v' w4 ho4 hg4 _; have HO4 := Lib.hid ho4; have HG4 := Lib.hid hg4; clear ho4 hg4)
          go_roundw
          case rel => exact ⟨j + 1, by go_num, hlt2, (by show World.ownsRow _ _ _ _ _ _ _; rw [HF.out, List.length_append]; exact HO4.out), HB.out.grown HG4.out HB.out.size (fun k hk => (HO.out.lt k hk).1)⟩
          case measure => simp [intOf]; omega
        · have hj' : j = i := by omega
          subst hj'
          rw [List.take_of_length_le (by omega)] at HO
          go_wp2_with fail
          go_ret
          exact ⟨_, rfl, HO.out, HB.out⟩

/-- What Merge returns. -/
def ScsPost (l : List Scn) (w : World) (e : Ending) (w' : World) : Prop := ∃ la c, e = .returned (.slice la l.length c) ∧ OwnRecs ScnE w' w.heap.size 39 la l.length l ∧ ((la = none → c = 0) ∧ l.length ≤ c) ∧ Below w.heap.size w w'

set_option maxRecDepth 10000 in
theorem merge_any (ra : Option Addr) (n c : Nat) (Ls : List (List Scn)) (w : World) (h : LogsAt w ra n Ls) (hn : n ≤ 1000) (hs : sumL Ls ≤ 100000) :
    Calls Try.prog 13 #[.slice ra n c] w (ScsPost (mergeS Ls.flatten) w) := by
  go_enter Try.func13, Try.ntmps13
  go_wp2_with fail
  refine (concat_any ra n c Ls w h hn hs).mono ?_
  rintro e w1 ⟨v, rfl, ho, hb⟩
  have HO := Lib.hid ho
  have HB := Lib.hid hb
  clear ho hb h
  go_wp2_with fail
  refine (scans_any v (sumL Ls) w.heap.size Ls.flatten w1 (by omega) HO.out).mono ?_
  rintro e w2 ⟨rfl, L', hp, hso, ho2, hg2⟩
  have HB2 : Hid (Below w.heap.size w w2) := HB.out.grown hg2 HB.out.size (fun k hk => (HO.out.lt k hk).1)
  have HO2 := Lib.hid ho2
  have HM : Hid (compS L' = mergeS Ls.flatten) := compS_set KS hp hso
  clear hp hso ho2 hg2
  go_wp2_with fail
  refine (scn_compact v (sumL Ls) w.heap.size L' w2 (by omega) HO2.out).mono ?_
  rintro e w3 ⟨la, c3, rfl, ho3, hg3, hc3⟩
  have HB3 : Hid (Below w.heap.size w w3) := HB2.out.grown hg3 HB2.out.size (fun k hk => (HO2.out.lt k hk).1)
  have HO3 := Lib.hid ho3
  have HC3 := Lib.hid hc3
  clear ho3 hg3 hc3
  rw [HM.out] at HO3 HC3 ⊢
  go_wp2_with fail
  go_ret
  exact ⟨la, c3, rfl, HO3.out, HC3.out, HB3.out⟩
end Go.Proofs.Ytpmoelkblngamaa
