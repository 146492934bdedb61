/- foyerref26: Expire. -/
import Derived.Test.YtkdbenoleendcaaGreatDoorQHMB45

namespace Go.Proofs.YtkdbenoleendcaaGreatDoor
open Go.RowKit Go.IntWalk Go.Maps Go.WideMaps

/-- A hold whose time is not over. -/
def stays (now : Int) (h : HoldT) : Bool := !decide (h.2.2.2.1 < now)

/-- Behind some of the open holds: those whose time is over have ended. -/
structure ExpAt (st : St) (now : Int) (j : Nat) (cur : St) (out : List Int) (i : Nat) : Prop where
  le : j ≤ st.op.length
  outs : out = overS (st.op.take j) now
  is : cur = endAll st out
  op : cur.op = (st.op.take j).filter (stays now) ++ st.op.drop j
  at_ : i = ((st.op.take j).filter (stays now)).length
  inv : Inv cur
  last : cur.last = st.last
  len : cur.sp.length = st.sp.length

theorem overS_snoc {op : List HoldT} {now : Int} {j : Nat} (h : j < op.length) : overS (op.take (j + 1)) now = overS (op.take j) now ++ (if (op[j]).2.2.2.1 < now then [(op[j]).1] else []) := by
  unfold overS
  rw [List.take_succ_eq_append_getElem h, List.filter_append, List.map_append]
  by_cases hh : (op[j]).2.2.2.1 < now <;> simp [hh]

theorem stays_snoc {op : List HoldT} {now : Int} {j : Nat} (h : j < op.length) : (op.take (j + 1)).filter (stays now) = (op.take j).filter (stays now) ++ (if (op[j]).2.2.2.1 < now then [] else [op[j]]) := by
  rw [List.take_succ_eq_append_getElem h, List.filter_append]
  by_cases hh : (op[j]).2.2.2.1 < now <;> simp [stays, hh]

section
variable {st cur : St} {now : Int} {j i : Nat} {out : List Int}
theorem ExpAt.start (hi : Inv st) : ExpAt st now 0 st [] 0 := ⟨Nat.zero_le _, rfl, rfl, rfl, rfl, hi, rfl, rfl⟩

theorem ExpAt.oplen (h : ExpAt st now j cur out i) : cur.op.length = i + (st.op.length - j) := by
  rw [h.op, List.length_append, ← h.at_, List.length_drop]

theorem ExpAt.count (h : ExpAt st now j cur out i) : out.length + i = j := by
  have e1 : out.length = ((st.op.take j).filter fun h => decide (h.2.2.2.1 < now)).length := by
    rw [h.outs]; unfold overS; rw [List.length_map]
  have e2 := List.length_eq_countP_add_countP (fun h : HoldT => decide (h.2.2.2.1 < now)) (l := st.op.take j)
  rw [List.length_take, Nat.min_eq_left h.le, List.countP_eq_length_filter, List.countP_eq_length_filter] at e2
  have e3 : (st.op.take j).filter (fun a => decide ¬decide (a.2.2.2.1 < now) = true) = (st.op.take j).filter (stays now) := List.filter_congr fun x _ => by simp [stays, -Int.not_lt]
  rw [e3, ← e1, ← h.at_] at e2
  exact e2.symm

theorem ExpAt.get (h : ExpAt st now j cur out i) (hj : j < st.op.length) : ∃ hi : i < cur.op.length, cur.op[i] = st.op[j] := by
  refine ⟨by rw [h.oplen]; omega, ?_⟩
  have hj2 : 0 < (st.op.drop j).length := by rw [List.length_drop]; omega
  have : cur.op[i]? = some st.op[j] := by
    rw [h.op, List.getElem?_append_right (Nat.le_of_eq h.at_.symm), ← h.at_, Nat.sub_self, List.getElem?_drop, Nat.add_zero, List.getElem?_eq_getElem hj]
  exact (List.getElem?_eq_some_iff.mp this).2

theorem ExpAt.keep (h : ExpAt st now j cur out i) (hj : j < st.op.length) (hk : ¬ (st.op[j]).2.2.2.1 < now) : ExpAt st now (j + 1) cur out (i + 1) := by
  refine ⟨hj, ?_, h.is, ?_, ?_, h.inv, h.last, h.len⟩
  · rw [overS_snoc hj, if_neg hk, List.append_nil]; exact h.outs
  · rw [stays_snoc hj, if_neg hk, List.append_assoc, List.singleton_append, ← List.drop_eq_getElem_cons hj]; exact h.op
  · rw [stays_snoc hj, if_neg hk, List.length_append, ← h.at_]; rfl

theorem ExpAt.over (h : ExpAt st now j cur out i) (hj : j < st.op.length) (hk : (st.op[j]).2.2.2.1 < now) (hi : i < cur.op.length) :
    ExpAt st now (j + 1) ⟨markS cur.sp (cur.op[i]).2.2.1 (0, 0), cur.last, cur.op.take i ++ cur.op.drop (i + 1)⟩ (out ++ [(cur.op[i]).1]) i := by
  obtain ⟨hi', hx⟩ := h.get hj
  have he := endS_at h.inv hi rfl (0, 0)
  have hin := end_inv h.inv (cur.op[i]).1 (0, 0) (Or.inl rfl)
  rw [he] at hin
  refine ⟨hj, ?_, ?_, ?_, ?_, hin, h.last, ?_⟩
  · rw [overS_snoc hj, if_pos hk, ← hx, h.outs]
  · have : endAll st (out ++ [(cur.op[i]).1]) = (endS (endAll st out) (cur.op[i]).1 (0, 0)).2 := by
      unfold endAll
      rw [List.foldl_append]
      rfl
    rw [this, ← h.is, he]
  · dsimp only
    rw [stays_snoc hj, if_pos hk, List.append_nil, h.op]
    have e1 : i = ((st.op.take j).filter (stays now)).length := h.at_
    rw [List.take_append_of_le_length (by omega), List.take_of_length_le (by omega)]
    rw [List.drop_append, List.drop_of_length_le (by omega), List.nil_append, ← e1, show i + 1 - i = 1 from by omega, List.drop_drop]
  · rw [stays_snoc hj, if_pos hk, List.append_nil]; exact h.at_
  · dsimp only
    rw [mark_len]; exact h.len

theorem ExpAt.done (h : ExpAt st now j cur out i) (hj : j = st.op.length) : expireS st now = (out, cur) := by
  have e : out = overS st.op now := by rw [h.outs, hj, List.take_length]
  unfold expireS
  rw [← e, ← h.is]
end

/-- The length of a slice. -/
def lenV : Value → Nat
  | .slice _ n _ => n
  | _ => 0

/-- What Expire of the reference returns, and leaves. -/
def RExpPost (g B : Nat) (r : List Int × St) (w : World) (e : Ending) (w' : World) : Prop :=
  ∃ v, e = .returned v ∧ LRes w' v r.1 ∧ RS w' g B r.2 ∧ Upd (Gb g) w w'

/-- The list of the numbers grows: the Holds stays. -/
theorem RefC.row_up {w w' : World} {g B oc sc : Nat} {oa sa : Option Addr} {E : List OwnT} {st : St} (h : RefC w g oa oc sa sc E st) {r : Option Nat} (hg : w.grownBy w' r)
    (hr : ∀ b, r = some b → B ≤ b ∧ (∃ arr x, w.heap[b]? = some (.cells arr 3 x))) (hP : ∀ x ∈ E, ∀ b o, x.2.1 = some ⟨b, o, none⟩ → b < B) : RefC w' g oa oc sa sc E st := by
  have hu : Upd (fun b => r = some b) w w' := Upd.of_row hg (fun b e => e)
  have hty : ∀ {b : Nat} {arr : Array Value} {T : TypeId} {x : Nat × Nat}, w.heap[b]? = some (.cells arr T x) → T ≠ 3 → ¬ (r = some b) := fun {b arr T x} hb hT e => by
    obtain ⟨_, arr2, x2, hb2⟩ := hr b e
    rw [hb] at hb2
    simp only [Option.some.injEq, Obj.cells.injEq] at hb2
    exact hT hb2.2.1
  refine ⟨(hu.block g (lt_of_block h.blk) (hty h.blk (by decide))).trans h.blk, ⟨fun hn => ?_, fun x hx => ?_⟩, h.ops, h.sps.upd hu (fun b arr x hb => hty hb (by decide)), h.cap⟩
  · obtain ⟨b, e, arr, ha, r'⟩ := h.opn.1 hn
    exact ⟨b, e, arr, (hu.block b (lt_of_block ha) (hty ha (by decide))).trans ha, r'⟩
  · obtain ⟨b, e, hb, arr, ha, r'⟩ := h.opn.2 x hx
    refine ⟨b, e, hb, arr, (hu.block b (lt_of_block ha) (fun e2 => ?_)).trans ha, r'⟩
    have h1 := (hr b e2).1
    have h2 := hP x hx b 0 e
    omega

theorem row_blk {w : World} {B k n : Nat} {T : TypeId} {v : Value} {xs : List Value} (h : w.ownsRow B T k v n xs) : ∀ b, v.ownBlock = some b → B ≤ b ∧ (∃ arr x, w.heap[b]? = some (.cells arr T x)) := fun b e => by
  rcases h.2 with ⟨rfl, _⟩ | ⟨g, cap, cur, rfl, hb, hh, _⟩
  · cases e
  · cases e
    exact ⟨hb, cur, _, hh⟩

set_option maxRecDepth 10000 in
set_option maxHeartbeats 1600000 in
theorem rexpire_any (w : World) (g B : Nat) (st : St) (now : Int) (h : RS w g B st) (hsp : st.sp.length ≤ 4000) (hla : st.last ≤ 1000) :
    Calls Tryz.prog 12 #[.pointer (some ⟨g, 0, none⟩), .int .i64 now] w (RExpPost g B (expireS st now) w) := by
  have HI := Lib.hid h.inv
  have hol := inv_len h.inv
  obtain ⟨i1, hj, hj0, hj1, hj2⟩ := info_parts' int_info
  obtain ⟨hBw, hinv, oa0, oc0, sa0, sc0, E0, hc0, hsa0⟩ := h
  have HBW := Lib.hid hBw
  have HC0 := Lib.hid hc0
  have HSA0 := Lib.hid hsa0
  have HGL : Hid (g < w.heap.size) := lt_of_block hc0.blk
  have HPB0 : Hid (∀ x ∈ E0, ∀ b o, x.2.1 = some ⟨b, o, none⟩ → b < w.heap.size) := fun x hx b o e => by
    obtain ⟨b', e', _, arr, ha, _⟩ := hc0.opn.2 x hx
    rw [e] at e'
    cases e'
    exact lt_of_block ha
  obtain ⟨m, hm⟩ : ∃ m, st.op.length = m := ⟨_, rfl⟩
  have HM := Lib.hid hm
  have hm1 : m ≤ 1000 := by omega
  clear hm hol hBw hinv hc0 hsa0
  go_enter Tryz.func12, Tryz.ntmps12
  go_wp2_with fail
  go_loopw [5, 6] (fun v5 v6 wr => ∃ (i j : Nat) (cur : St) (out : List Int) (pa : Option Addr) (pc : Nat), v6 = .int .i64 i ∧ v5 = .slice pa out.length pc ∧ i ≤ j ∧ j ≤ m ∧ out.length + i = j ∧ Hid (ExpAt st now j cur out i) ∧ Hid (∃ oa oc sa sc E, RefC wr g oa oc sa sc E cur ∧ (∀ b o, sa = some ⟨b, o, none⟩ → B ≤ b) ∧ ∀ x ∈ E, ∀ b o, x.2.1 = some ⟨b, o, none⟩ → b < w.heap.size) ∧ Hid (Upd (Gb g) w wr) ∧ Hid (wr.ownsRow w.heap.size 3 1 v5 out.length (out.map (Value.int .i64)))) (fun v5 v6 _ => m - (lenV v5 + (intOf v6).toNat))
  case atStart => exact ⟨0, 0, st, [], none, 0, rfl, rfl, Nat.le_refl _, Nat.zero_le _, rfl, ExpAt.start HI.out, ⟨_, _, _, _, _, HC0.out, HSA0.out, HPB0.out⟩, Upd.refl _ _, ⟨rfl, Or.inl ⟨rfl, rfl⟩⟩⟩
  case round =>
    obtain ⟨i, j, cur, out, pa, pc, rfl, rfl, hij, hjm, hcount, HX, HR, HU, HO⟩ := hrel
    obtain ⟨oa, oc, sa, sc, E, hc, hsaB, hpb⟩ := HR.out
    have HC := Lib.hid hc
    have HSB := Lib.hid hsaB
    have HPB := Lib.hid hpb
    have g0 := hc.c0
    rw [HX.out.oplen, HM.out] at g0
    clear hc hsaB hpb
    by_cases hlt : j < m
    · have hjo : j < st.op.length := by rw [HM.out]; exact hlt
      obtain ⟨hio, hx⟩ := HX.out.get hjo
      have hiE : i < E.length := by rw [HC.out.elen]; exact hio
      have hxE : E[i].1 = cur.op[i] := map_at HC.out.ops hiE (List.getElem?_eq_getElem hio)
      obtain ⟨b, o, rfl, c0, c1, c2, c3, c4, c5⟩ := own_at HC.out.opn.recs i hiE hiE
      rw [hxE] at c0 c4
      have HKEEP := Lib.hid (HX.out.keep hjo)
      have HOVER := Lib.hid (fun hk => HX.out.over hjo hk hio)
      rw [← hx] at HKEEP HOVER
      have HEN := Lib.hid (fun wx hx => rend_any wx g (some ⟨b, o, none⟩) sa oc sc E cur i 0 0 hx HX.out.inv hio (by rw [HX.out.len]; exact hsp) (by rw [HX.out.oplen, HM.out]; omega))
      have hlen2 : i < i + (m - j) := by omega
      clear c1 c2 c3 c5 hxE hiE hx
      by_cases hk : (cur.op[i]).2.2.2.1 < now
      · have HXN := Lib.hid (HOVER.out hk)
        generalize hP : (cur.op[i]).2.2.1 = P at *
        generalize hID : (cur.op[i]).1 = id at *
        generalize (cur.op[i]).2.2.2.1 = til at *
        clear hP hID hio hjo HKEEP HOVER
        have hsz := HU.out.size
        go_wp2_with (at_builtin; refine wpList_append_own _ rfl _ _ 29 rfl w.heap.size 3 i1 _ 1 8 Tryz.underlying29 hj hj0 hj1 hj2 rfl (by decide) _ _ _ rfl (HO.out.alloc _) ⟨wr.heap.size, 0, none⟩ 1 1 [.int .i64 id] rfl rfl (int_new wr id) (by simp [Value.oneCell']) (by unfold maxLen; omega) (by omega) (by simp; omega) ?_; intro v' w4 hown' hgrow _; have HN := Lib.hid (And.intro hown' hgrow); clear hown' hgrow)
        have HB1 : Hid (Below wr.heap.size wr (wr.alloc (.cells #[.int .i64 id] 3))) := Joins.below_alloc1 wr _
        have hro := row_blk (HO.out.alloc (.cells #[.int .i64 id] 3))
        have HC4 : Hid (RefC w4 g (some ⟨b, o, none⟩) oc sa sc E cur) := (HC.out.below HB1.out).row_up HN.out.2 hro HPB.out
        have HU4 : Hid (Upd (Gb g) w w4) := by
          have h1 : Upd (fun b => w.heap.size ≤ b) (wr.alloc (.cells #[.int .i64 id] 3)) w4 := Upd.of_row HN.out.2 (fun b e => (hro b e).1)
          have h2 : Upd (Gb g) w (wr.alloc (.cells #[.int .i64 id] 3)) := HU.out.trans (Upd.of_below HB1.out)
          exact ⟨h1.os.trans h2.os, h1.tape.trans h2.tape, h1.output.trans h2.output, Nat.le_trans h2.size h1.size, fun k hk hg => (h1.block k (Nat.lt_of_lt_of_le hk h2.size) (by omega)).trans (h2.block k hk hg)⟩
        have HE4 := Lib.hid (HEN.out w4 HC4.out)
        have HO4 := Lib.hid HN.out.1
        clear hro HEN HN HO HC HB1 c0 c4 g0
        refine HE4.out.mono ?_
        rintro e w5 ⟨xa, xc, oa', oc', sa', sc', E', rfl, hlr, hh, hu, hfr, hsub⟩
        have HC5 := Lib.hid hh
        have HU5 := Lib.hid hu
        have HFR := Lib.hid hfr
        have HSUB := Lib.hid hsub
        clear hlr hh hu hfr hsub HE4
        obtain ⟨pa', pc', rfl, hI⟩ := Ints.of_own (L := out ++ [id]) (by have := HO4.out; rw [List.map_append]; exact this)
        clear hI
        go_wp2_with fail
        refine ⟨⟨i, j + 1, _, out ++ [id], pa', pc', rfl, by rw [List.length_append]; rfl, by omega, hlt, by rw [List.length_append, List.length_singleton]; omega, HXN.out, ⟨_, _, _, _, _, HC5.out, fun b o e => Nat.le_trans (Nat.le_trans HBW.out HU4.out.size) (HFR.out b o e), fun x hx => HPB.out x (HSUB.out x hx)⟩, HU4.out.trans HU5.out, ?_⟩, by simp [intOf, lenV]; omega⟩
        rw [List.length_append, List.map_append]
        refine row_of_heap HO4.out (fun r hr => HU5.out.block r (row_lt HO4.out hr) (fun e => ?_))
        have h1 := (HO4.out.lt r hr).1
        have h2 := HGL.out
        have h3 : r = g := e
        omega
      · have HXN := Lib.hid (HKEEP.out hk)
        generalize (cur.op[i]).1 = id at *
        generalize (cur.op[i]).2.2.2.1 = til at *
        clear hio hjo HKEEP HOVER HEN
        go_wp2_with fail
        exact ⟨⟨i + 1, j + 1, cur, out, pa, pc, by go_num, rfl, by omega, hlt, by omega, HXN.out, HR.out, HU.out, HO.out⟩, by simp [intOf, lenV]; omega⟩
    · have hje : j = m := by omega
      subst hje
      have HD := Lib.hid (HX.out.done HM.out.symm)
      have HIV := Lib.hid HX.out.inv
      clear HX
      rw [Nat.sub_self] at g0
      go_wp2_with fail
      go_ret
      rw [HD.out]
      exact ⟨_, rfl, LRes.of_own HO.out, ⟨Nat.le_trans HBW.out HU.out.size, HIV.out, _, _, _, _, _, HC.out, HSB.out⟩, HU.out⟩
end Go.Proofs.YtkdbenoleendcaaGreatDoor
