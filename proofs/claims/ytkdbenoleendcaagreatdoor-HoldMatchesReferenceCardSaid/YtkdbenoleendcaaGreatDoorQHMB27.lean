/- hold.Spaces, List: the walks. -/
import Derived.Test.YtkdbenoleendcaaGreatDoorQHMB26
import Derived.Deep.RegionHeldLaw
import Derived.Deep.AppendLies

namespace Go.Proofs.YtkdbenoleendcaaGreatDoor
open Go.RowKit Go.IntWalk Go.Maps Go.WideMaps

theorem info_sp : (Tryz.prog.info? 53).map (fun i => (i.zero, i.size, i.bytes)) = some (some (.agg #[.int .i64 0, .int .i64 0]), 2, 16) := by kernel_rfl
theorem info_hold : (Tryz.prog.info? 51).map (fun i => (i.zero, i.size, i.bytes)) = some (some (.agg #[.int .i64 0, .string (bs []), .int .i64 0, .slice none 0 0, .int .i64 0, .int .i64 0]), 6, 72) := by kernel_rfl

theorem info_parts' {x : Option TypeInfo} {z : Option Value} {s b : Nat} (h : x.map (fun i => (i.zero, i.size, i.bytes)) = some (z, s, b)) : ∃ i, x = some i ∧ i.zero = z ∧ i.size = s ∧ i.bytes = b := by
  obtain ⟨i, hi, e⟩ := Option.map_eq_some_iff.1 h
  simp only [Prod.mk.injEq] at e
  exact ⟨i, hi, e.1, e.2.1, e.2.2⟩

theorem clone_sp (ra : Option Addr) (n c : Nat) (l : List SpT) (w : World) (hM : Recs SpE w ra n l) (hn : n ≤ 4000) :
    Calls Tryz.prog 34 #[.slice ra n c] w fun e w' => ∃ la k c', e = .returned (.slice la k c') ∧ Below w.heap.size w w' ∧ OwnRecs SpE w' w.heap.size 53 la k l := by
  have hlen := hM.1
  cases ra with
  | none =>
    have h0 : n = 0 := by
      rcases Nat.eq_zero_or_pos n with h | h
      · exact h
      · obtain ⟨b, o, e, _⟩ := hM.2 0 h; simp at e
    have hl : l = [] := List.length_eq_zero_iff.mp (by omega)
    subst hl
    subst h0
    have hnil := fun w => Lib.run_eql_slice_nil (P := Tryz.prog) w 44 53 none 0 c 0 0 Tryz.underlying44
    go_enter Tryz.func34, Tryz.ntmps34
    go_wp2_with fail
    go_ret
    exact ⟨none, 0, 0, rfl, Below.refl _ _, ⟨rfl, fun h => absurd h (Nat.lt_irrefl _)⟩⟩
  | some ad =>
    have hnil := fun w => Lib.run_eql_slice_nil (P := Tryz.prog) w 44 53 (some ad) n c 0 0 Tryz.underlying44
    have HM := Lib.hid (hM.below (Joins.below_alloc1 w (.cells #[] 53)))
    clear hM
    obtain ⟨i1, hj, hj0, hj1, hj2⟩ := info_parts' info_sp
    have HOW := Lib.hid (World.ownsRow_made (e := 53) (size := 2) w #[] 0 (Nat.le_refl _) (by unfold maxLen; omega) rfl)
    have hfl : (flat SpE l).length = n * 2 := by rw [flat_len, hlen]
    have HFC := Lib.hid (flat_cells HM.out)
    go_enter Tryz.func34, Tryz.ntmps34
    go_wp2_with (at_builtin; refine wpList_append_own _ rfl _ _ 44 rfl w.heap.size 53 i1 _ 2 16 Tryz.underlying44 hj hj0 hj1 hj2 rfl (by decide) _ 0 [] rfl HOW.out ad n c (flat SpE l) rfl hfl HFC.out flat_one (by unfold maxLen; omega) (by omega) (by simp) ?_; skip)
    intro v' w3 hown' hgrow _
    have HN := Lib.hid (And.intro hown' hgrow)
    clear hown' hgrow
    obtain ⟨la, c', rfl, ho⟩ := OwnRecs.of_row HN.out.1
    have HO := Lib.hid ho
    clear ho
    go_wp2_with fail
    go_ret
    exact ⟨la, n, c', rfl, ((Below.refl _ _).alloc (Nat.le_refl _) _).grown HN.out.2 (by simp) (fun k hk => by simp [Value.ownBlock] at hk; omega), HO.out⟩

/-- A list of states that an operation hands back. -/
def SpRes (w : World) (B : Nat) (v : Value) (sp : List SpT) : Prop := ∃ la c, v = .slice la sp.length c ∧ OwnRecs SpE w B 53 la sp.length sp

def SpPost (F : Nat → Prop) (g M sb : Nat) (E : List OwnT) (st : St) (w : World) (e : Ending) (w' : World) : Prop :=
  ∃ v, e = .returned v ∧ SpRes w' w.heap.size v st.sp ∧ HoldC w' F g M sb E st ∧ Below w.heap.size w w'

theorem spaces_any (w : World) (F : Nat → Prop) (g M sb : Nat) (E : List OwnT) (st : St) (h : HoldC w F g M sb E st) (hsp : st.sp.length ≤ 4000) :
    Calls Tryz.prog 17 #[.pointer (some ⟨g, 0, none⟩)] w (SpPost F g M sb E st w) := by
  have HH := Lib.hid h
  have g1 : w.cell? ⟨g, 1, none⟩ = some (.slice (some ⟨sb, 0, none⟩) st.sp.length st.sp.length) := by rw [cell_of_row _ _ _ _ _ _ h.blk]; rfl
  have HC := Lib.hid (clone_sp (some ⟨sb, 0, none⟩) st.sp.length st.sp.length st.sp w h.sps.recs hsp)
  clear h
  go_enter Tryz.func17, Tryz.ntmps17
  go_wp2_with fail
  refine HC.out.mono ?_
  rintro e w' ⟨la, k, c', rfl, hb, ho⟩
  obtain rfl : k = st.sp.length := ho.1.symm
  have HB := Lib.hid hb
  have HO := Lib.hid ho
  clear hb ho HC
  go_wp2_with fail
  go_ret
  exact ⟨_, rfl, ⟨la, c', rfl, HO.out⟩, HH.out.keep (T := fun _ => False) (Upd.of_below HB.out) (fun _ _ h => h) (fun _ _ h => h), HB.out⟩

/-- How an open hold lies in six cells. -/
def OwnE : Enc OwnT 6 := ⟨fun x => [.int .i64 x.1.1, .string (bs x.1.2.1), .int .i64 0, .slice x.2.1 x.1.2.2.1.length x.2.2, .int .i64 x.1.2.2.2.1, .int .i64 x.1.2.2.2.2], fun _ => rfl, fun x v hv => by
  simp only [List.mem_cons, List.not_mem_nil, or_false] at hv
  rcases hv with rfl | rfl | rfl | rfl | rfl | rfl <;> rfl, by decide⟩

/-- A list of open holds that an operation hands back. -/
def HlRes (w : World) (B : Nat) (v : Value) (E : List OwnT) : Prop := ∃ la c, v = .slice la E.length c ∧ OwnRecs OwnE w B 51 la E.length E ∧ E.length ≤ c

def HlPost (F : Nat → Prop) (g M sb : Nat) (E : List OwnT) (st : St) (w : World) (e : Ending) (w' : World) : Prop :=
  ∃ v, e = .returned v ∧ HlRes w' w.heap.size v E ∧ HoldC w' F g M sb E st ∧ Below w.heap.size w w'

theorem own_cap {α : Type} {k : Nat} {E : Enc α k} {w : World} {T : TypeId} {xs : List α} {B n : Nat} {v : Value} (h : w.ownsRow B T k v n (flat E xs)) : ∃ la c, v = .slice la n c ∧ OwnRecs E w B T la n xs ∧ n ≤ c := by
  obtain ⟨la, c, rfl, ho⟩ := OwnRecs.of_row h
  refine ⟨la, c, rfl, ho, ?_⟩
  rcases h.2 with ⟨e, h0⟩ | ⟨g, cap, cur, e, _, _, h1, _⟩
  · omega
  · cases e; exact h1

theorem own_new (W : World) (x : OwnT) : ∀ (j : Nat) (u : Value), (OwnE.cells x)[j]? = some u → (W.alloc (.cells #[.int .i64 x.1.1, .string (bs x.1.2.1), .int .i64 0, .slice x.2.1 x.1.2.2.1.length x.2.2, .int .i64 x.1.2.2.2.1, .int .i64 x.1.2.2.2.2] 51)).cell? ((⟨W.heap.size, 0, none⟩ : Addr).add j) = some u := by
  intro j u hj
  rw [add_none]
  have hb := World.alloc_heap_new W (.cells #[.int .i64 x.1.1, .string (bs x.1.2.1), .int .i64 0, .slice x.2.1 x.1.2.2.1.length x.2.2, .int .i64 x.1.2.2.2.1, .int .i64 x.1.2.2.2.2] 51)
  rw [Nat.zero_add, cell_of_row _ _ _ _ _ _ hb]
  simpa [OwnE] using hj

theorem look_one {w : World} {M n : Nat} {E : List OwnT} (h : w.ownsMap Tryz.prog 3 RH M n (mapH E)) {id : Int} (hw : (Lit.int .i64 id).wf = true) {x : OwnT} (hx : findO E id = some x) :
    (Instr.lookup 54 (.map (some M)) (.int .i64 id) false).run Tryz.prog w = .ok (holdV x) w := by
  obtain ⟨v, ps, hrun, hv⟩ := h.lookup lawI Tryz.underlying54 (zeroHold w) (zd := .held zeroHoldV) (zp := []) rfl (keyOf_int_mk Tryz.underlying3 hw)
  rw [mapH_at, hx] at hv
  rw [hrun, RH_inv hv]

theorem find_ix {E : List OwnT} (ha : Asc E) {i : Nat} (h : i < E.length) : findO E (ix (idsO E) i) = some E[i] := by
  have hid : ix (idsO E) i = E[i].1.1 := by
    rw [ix_get (by unfold idsO; simpa using h)]
    unfold idsO
    simp
  rw [hid]
  cases hf : findO E E[i].1.1 with
  | none =>
    unfold findO at hf
    have := List.find?_eq_none.mp hf E[i] (List.getElem_mem h)
    simp at this
  | some y =>
    obtain ⟨h1, h2⟩ := findO_mem hf
    congr 1
    obtain ⟨j, hj, rfl⟩ := List.getElem_of_mem h1
    rcases Nat.lt_trichotomy i j with hl | hl | hl
    · have := List.pairwise_iff_getElem.mp ha i j h hj hl
      omega
    · subst hl; rfl
    · have := List.pairwise_iff_getElem.mp ha j i hj h hl
      omega

set_option maxRecDepth 10000 in
theorem list_any (w : World) (F : Nat → Prop) (g M sb : Nat) (E : List OwnT) (st : St) (h : HoldC w F g M sb E st) (hE : E.length ≤ 1000) (hla : st.last ≤ 900000000) :
    Calls Tryz.prog 20 #[.pointer (some ⟨g, 0, none⟩)] w (HlPost F g M sb E st w) := by
  have HH := Lib.hid h
  have g0 : w.cell? ⟨g, 0, none⟩ = some (.map (some M)) := by rw [cell_of_row _ _ _ _ _ _ h.blk]; rfl
  have HAS := Lib.hid h.asc
  have HRG : Hid (∀ i, i < E.length → 1 ≤ ix (idsO E) i ∧ ix (idsO E) i ≤ 1000000000) := by
    intro i hi
    have hid : ix (idsO E) i = E[i].1.1 := by
      rw [ix_get (by unfold idsO; simpa using hi)]
      unfold idsO
      simp
    have := h.inv.rng E[i].1 (by rw [← h.ops]; exact List.mem_map_of_mem (List.getElem_mem hi))
    omega
  have HKY := Lib.hid (keys_any (some M) w)
  clear h
  go_enter Tryz.func20, Tryz.ntmps20
  go_wp2_with fail
  refine HKY.out.mono ?_
  rintro e w1 ⟨rfl, h1⟩
  have HW1 := Lib.hid h1
  clear h1
  go_wp2_with fail
  refine (sorted_any M E.length E HAS.out hE w w1 HH.out.map HW1.out).mono ?_
  rintro e w2 ⟨v, rfl, hv, hb⟩
  have HB2 := Lib.hid hb
  have HV2 := Lib.hid hv
  clear hb hv HKY
  obtain ⟨pa, pc, rfl, hI⟩ : ∃ pa pc, v = .slice pa E.length pc ∧ Ints w2 pa E.length (idsO E) := by
    have hlen : (idsO E).length = E.length := by unfold idsO; simp
    rcases HV2.out with ⟨h0, e⟩ | ⟨b, c, e, _, hr⟩
    · rw [h0] at hlen
      exact ⟨none, 0, by rw [e, ← hlen]; rfl, by rw [h0]; exact hlen, fun k hk => by rw [← hlen] at hk; simp at hk⟩
    · exact ⟨some ⟨b, 0, none⟩, c, by rw [e, hlen], hlen, fun k hk => ⟨b, 0, rfl, by rw [Nat.zero_add]; exact hr.cell k (by rw [hlen]; exact hk)⟩⟩
  have HI2 := Lib.hid hI
  clear hI HV2
  obtain ⟨i1, hj, hj0, hj1, hj2⟩ := info_parts' info_hold
  go_wp2_with fail
  go_loopw [3, 5, 15] (fun v3 v5 v15 wr => ∃ i : Nat, v15 = .int .i64 i ∧ i ≤ E.length ∧ Hid (Below w2.heap.size w2 wr) ∧ Hid (wr.ownsRow w2.heap.size 51 6 v3 i (flat OwnE (E.take i)))) (fun v3 v5 v15 _ => E.length - (intOf v15).toNat)
  case atStart => exact ⟨0, rfl, Nat.zero_le _, Below.refl _ _, ⟨rfl, Or.inl ⟨rfl, rfl⟩⟩⟩
  case round =>
    obtain ⟨i, rfl, hi, HB, HO⟩ := hrel
    by_cases hlt : i < E.length
    · obtain ⟨b, o, e1, c0⟩ := (HI2.out.below HB.out).2 i hlt
      subst e1
      have HHr : Hid (HoldC wr F g M sb E st) := HH.out.keep (T := fun _ => False) ((Upd.of_below HB2.out).trans (Upd.of_below HB.out)) (fun _ _ h => h) (fun _ _ h => h)
      have g0 : wr.cell? ⟨g, 0, none⟩ = some (.map (some M)) := by rw [cell_of_row _ _ _ _ _ _ HHr.out.blk]; rfl
      have hrg := HRG.out i hlt
      have hrun := look_one HHr.out.map (id := ix (idsO E) i) (by simp only [Lit.wf, show IntKind.i64.min = -9223372036854775808 from by decide, show IntKind.i64.max = 9223372036854775807 from by decide]; simp; omega) (find_ix HAS.out hlt)
      simp only [holdV] at hrun
      have HTK : Hid (flat OwnE (E.take (i + 1)) = flat OwnE (E.take i) ++ OwnE.cells E[i]) := by
        show _ = _
        rw [List.take_succ_eq_append_getElem hlt, flat_append, flat_single]
      obtain ⟨id, hid⟩ : ∃ id, ix (idsO E) i = id := ⟨_, rfl⟩
      obtain ⟨x, hx⟩ : ∃ x, E[i] = x := ⟨_, rfl⟩
      rw [hid] at c0 hrun
      rw [hx] at hrun HTK
      clear hid hrg hx
      obtain ⟨⟨xid, xnm, xL, xt, xc⟩, xa, xcap⟩ := x
      dsimp only at hrun
      have hsz := HB.out.size
      go_wp2_with (at_builtin; refine wpList_append_own _ rfl _ _ 47 rfl w2.heap.size 51 i1 _ 6 72 Tryz.underlying47 hj hj0 hj1 hj2 rfl (by decide) _ _ _ rfl (HO.out.alloc _) ⟨wr.heap.size, 0, none⟩ 1 1 (OwnE.cells ((xid, xnm, xL, xt, xc), xa, xcap)) rfl rfl (own_new wr ((xid, xnm, xL, xt, xc), xa, xcap)) (OwnE.one _) (by unfold maxLen; omega) (by omega) (by simp; omega) ?_; intro v' w4 hown' hgrow _; have HN := Lib.hid (And.intro hown' hgrow); clear hown' hgrow)
      refine ⟨⟨i + 1, by go_num, hlt, ?_, ?_⟩, by simp [intOf]; omega⟩
      · exact (HB.out.alloc HB.out.size _).grown HN.out.2 (by simp; omega) (fun k hk => (HO.out.lt k hk).1)
      · show World.ownsRow _ _ _ _ _ _ _
        rw [HTK.out]
        exact HN.out.1
    · have hi' : i = E.length := by omega
      subst hi'
      have hO := HO.out
      rw [List.take_length] at hO
      obtain ⟨la, c', rfl, ho, hc⟩ := own_cap hO
      have HOO := Lib.hid ho
      clear ho hO HO
      go_wp2_with fail
      go_ret
      have hB : Below w.heap.size w wr := HB2.out.trans (HB.out.mono HB2.out.size)
      exact ⟨_, rfl, ⟨la, c', rfl, ⟨HOO.out.1, fun hn => let ⟨b, e, hb, hr⟩ := HOO.out.2 hn; ⟨b, e, Nat.le_trans HB2.out.size hb, hr⟩⟩, hc⟩, HH.out.keep (T := fun _ => False) (Upd.of_below hB) (fun _ _ h => h) (fun _ _ h => h), hB⟩
end Go.Proofs.YtkdbenoleendcaaGreatDoor
