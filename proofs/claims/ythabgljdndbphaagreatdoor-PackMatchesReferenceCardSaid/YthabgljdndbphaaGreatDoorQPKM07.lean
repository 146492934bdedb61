/- stableCmpFunc and SortStableFunc at []int; SortStableFunc at []int: a permutation, in the order that the comparison and the first places give; B. -/
import Derived.Test.YthabgljdndbphaaGreatDoorQPKM01
import Derived.Test.YthabgljdndbphaaGreatDoorQPKM06
import Derived.Test.YthabgljdndbphaaGreatDoorProg

set_option linter.unusedVariables false
set_option linter.unusedSimpArgs false
namespace Go.Proofs.YthabgljdndbphaaGreatDoor
open Go.RowKit

theorem flatten_one (ds : List (List Int)) (c : List Int) : (ds ++ [c]).flatten = ds.flatten ++ c := by simp

theorem Chunks.snoc {cf : Int → Int → Int} {prec : Int → Int → Prop} {dom : Int → Prop} {ds : List (List Int)} {c : List Int} (h : Chunks cf prec dom ds) (hc : c.Pairwise prec) (hd : ∀ x ∈ c, dom x)
  (hx : ∀ d ∈ ds, Cross cf prec d c) : Chunks cf prec dom (ds ++ [c]) := by
 refine ⟨fun x hx => ?_, ?_, fun x hx => ?_⟩
 ·
  rcases List.mem_append.1 hx with hx | hx
  ·
   exact h.sorted x hx
  ·
   rw [List.mem_singleton.1 hx]; exact hc
 ·
  rw [List.pairwise_append]
  exact ⟨h.cross, by simp, fun a ha b hb => by rw [List.mem_singleton.1 hb]; exact hx a ha⟩
 ·
  rcases List.mem_append.1 hx with hx | hx
  ·
   exact h.dom x hx
  ·
   rw [List.mem_singleton.1 hx]; exact hd

theorem cut_two {bs : Nat} (ts : List (List Int)) (h : Cut bs ts) (hb : 0 < bs) (hl : 2 * bs ≤ ts.flatten.length) : ∃ c1 c2 ts', ts = c1 :: c2 :: ts' ∧ c1.length = bs ∧ c2.length = bs ∧ Cut bs ts' := by
 match ts, h with
 | [], _ => simp at hl; omega
 | [c], h => have := h.le; simp at hl; omega
 | [c, d], h => have := h.full; have := h.2.2.le; simp at hl; exact ⟨c, d, [], rfl, by omega, by omega, trivial⟩
 | c :: d :: e :: ts, h => exact ⟨c, d, e :: ts, rfl, h.full, h.2.2.full, h.2.2.2.2⟩

theorem cut_last {bs : Nat} (ts : List (List Int)) (h : Cut bs ts) (hl : ts.flatten.length < 2 * bs) (hm : bs < ts.flatten.length) : ∃ c1 c2, ts = [c1, c2] ∧ c1.length = bs ∧ 0 < c2.length := by
 match ts, h with
 | [], _ => simp at hm
 | [c], h => have := h.le; simp at hm; omega
 | [c, d], h => exact ⟨c, d, rfl, h.full, h.2.2.1⟩
 | c :: d :: e :: ts, h => have := h.full; have := h.2.2.full; simp at hl; omega

theorem cut_wider {bs : Nat} (ts : List (List Int)) (h : Cut bs ts) (hm : ts.flatten.length ≤ bs) : Cut (2 * bs) ts := by
 have h1 := h.one ts hm
 match ts, h1, h with
 | [], _, _ => trivial
 | [c], _, h => exact ⟨h.1, by have := h.le; simp; omega, trivial⟩

/-- Insertion sort over the end of the list, which may be empty. -/
theorem insertion_end (f : Nat) (cap : Array Value) (cf : Int → Int → Int) (dom : Int → Prop) (prec : Int → Int → Prop) (g T c l a : Nat) (P R : List Int) (w : World)
  (hcf : ∀ (args : Array Value) (w : World), (callFunc f args).run Tryz.prog w = .ok (.enter f args) w)
  (hcmp : CmpAt f cap cf dom g w) (htr : ∀ x y z, prec x y → prec y z → prec x z) (hl : l = (P ++ R).length) (hD : l ≤ 4000) (hR : IntRow w g T (P ++ R)) (ha : a = P.length)
  (hdom : ∀ x ∈ R, dom x) (hok : R.Pairwise (Ok cf prec)) :
  Calls Tryz.prog 86 #[.slice (some ⟨g, 0, none⟩) l c, .int .i64 a, .int .i64 l, .func (.func f) #[] cap] w
   fun e w' => e = .returned (.tuple #[]) ∧ w.grownBy w' (some g) ∧ ∃ R', IntRow w' g T (P ++ R') ∧ R'.Perm R ∧ R'.Pairwise prec := by
 rw [List.length_append] at hl
 rcases Nat.eq_zero_or_pos R.length with h | h
 ·
  have hal : a = l := by omega
  subst hal
  refine (insertion_none f cap _ a hD w).mono ?_
  rintro e w' ⟨rfl, rfl⟩
  have : R = [] := List.length_eq_zero_iff.1 h
  subst this
  exact ⟨rfl, grown_refl _ _, [], hR, List.Perm.refl _, by simp⟩
 ·
  refine (insertion_any f cap cf dom prec g T c l a l P R [] w hcf hcmp htr (by simp; omega) hD (by simpa using hR) (by omega) (by omega) h hdom hok).mono ?_
  rintro e w' ⟨rfl, hg, R', hr, p, o⟩
  exact ⟨rfl, hg, R', by simpa using hr, p, o⟩

/-- The chunks, the last one perhaps empty, as chunks that are not empty. -/
theorem chunks_end {cf : Int → Int → Int} {prec : Int → Int → Prop} {dom : Int → Prop} {bs : Nat} (ds : List (List Int)) (R : List Int) (hb : 0 < bs) (hf : ∀ d ∈ ds, d.length = bs) (hd : Chunks cf prec dom ds) (hR : R.Pairwise prec) (hdm : ∀ x ∈ R, dom x)
  (hx : ∀ d ∈ ds, Cross cf prec d R) (hl : R.length ≤ bs) : ∃ cs, cs.flatten = ds.flatten ++ R ∧ Cut bs cs ∧ Chunks cf prec dom cs := by
 rcases Nat.eq_zero_or_pos R.length with h | h
 ·
  have : R = [] := List.length_eq_zero_iff.1 h
  subst this
  exact ⟨ds, by simp, by simpa using Cut.of_full ds [] hb hf trivial, hd⟩
 ·
  exact ⟨ds ++ [R], by simp, Cut.of_full ds [R] hb hf ⟨h, by simpa using hl, trivial⟩, hd.snoc hR hdm hx⟩

set_option maxRecDepth 20000 in
set_option maxHeartbeats 4000000 in
theorem stable_any (f : Nat) (cap : Array Value) (cf : Int → Int → Int) (dom : Int → Prop) (prec : Int → Int → Prop) (g T c l : Nat) (D : List Int) (w : World)
  (hcf : ∀ (args : Array Value) (w : World), (callFunc f args).run Tryz.prog w = .ok (.enter f args) w)
  (hcmp : CmpAt f cap cf dom g w) (htr : ∀ x y z, prec x y → prec y z → prec x z) (hl : l = D.length) (hD : l ≤ 4000) (hR : IntRow w g T D) (hdom : ∀ x ∈ D, dom x) (hok : D.Pairwise (Ok cf prec)) :
  Calls Tryz.prog 75 #[.slice (some ⟨g, 0, none⟩) l c, .int .i64 l, .func (.func f) #[] cap] w
   fun e w' => e = .returned (.tuple #[]) ∧ w.grownBy w' (some g) ∧ ∃ D', IntRow w' g T D' ∧ D'.Perm D ∧ D'.Pairwise prec := by
 have HC := Lib.hid hcmp; have HT := Lib.hid htr; have HL := Lib.hid hl; have HDM := Lib.hid hdom; have HO := Lib.hid hok
 clear hcmp htr hl hdom hok
 go_enter Tryz.func75, Tryz.ntmps75
 go_wp2
 go_loopw [7, 8] (fun v7 v8 wr => ∃ (a : Nat) (ds : List (List Int)) (R : List Int), v7 = .int .i64 a ∧ v8 = .int .i64 (a + 20) ∧ a ≤ l ∧ Hid (a = ds.flatten.length) ∧ Hid (∀ d ∈ ds, d.length = 20) ∧ Hid (Chunks cf prec dom ds) ∧
   Hid ((∀ d ∈ ds, Cross cf prec d R) ∧ R.Pairwise (Ok cf prec) ∧ ∀ x ∈ R, dom x) ∧ Hid ((ds.flatten ++ R).Perm D) ∧ w.grownBy wr (some g) ∧ IntRow wr g T (ds.flatten ++ R))
  (fun v7 _ _ => ((l : Int) - intOf v7).toNat)
 case atStart => exact ⟨0, [], D, rfl, rfl, Nat.zero_le _, rfl, by simp [Hid], ⟨by simp, by simp, by simp⟩, ⟨by simp, HO.out, HDM.out⟩, List.Perm.refl _, grown_refl _ _, hR⟩
 case round =>
  clear hR
  obtain ⟨a, ds, R, rfl, rfl, hal, H1, H2, H3, H4, H5, hg, hr⟩ := hrel
  by_cases hlt : a + 20 ≤ l
  ·
   have hRl : Hid (a + R.length = l) := by have h1 := H5.out.length_eq; have := H1.out; have := HL.out; rw [List.length_append] at h1; show _ = _; omega
   have hR12 : R = R.take 20 ++ R.drop 20 := (List.take_append_drop 20 R).symm
   have hl1 : Hid ((R.take 20).length = 20) := by have := hRl.out; show _ = _; rw [List.length_take]; omega
   generalize R.take 20 = R1 at *
   generalize R.drop 20 = R2 at *
   have H12 := Lib.hid hR12
   rw [hR12] at hr
   clear hR12
   have hd1 : Hid (∀ x ∈ R1, dom x) := fun x hx => H4.out.2.2 x (by rw [H12.out]; simp [hx])
   have ho1 : Hid (R1.Pairwise (Ok cf prec) ∧ R2.Pairwise (Ok cf prec) ∧ Cross cf prec R1 R2) := by have h := H4.out.2.1; rw [H12.out, List.pairwise_append] at h; exact h
   go_wp2_with fail
   refine (insertion_any f cap cf dom prec g T c l _ _ ds.flatten R1 R2 wr hcf (HC.out.next hg) HT.out (by have h1 := H1.out; have h2 := hRl.out; have h3 := congrArg List.length H12.out; simp only [List.length_append] at h3 ⊢; omega) hD hr (by have h1 := H1.out; omega) (by have h1 := H1.out; have h2 := hl1.out; omega) (by have := hl1.out; omega) hd1.out ho1.out.1).mono ?_
   rintro ee w1 ⟨rfl, hg1, R1', hr1, p1, o1⟩
   have P1 := Lib.hid p1; have O1 := Lib.hid o1
   clear p1 o1 hr
   go_wp2
   go_roundw
   case rel => exact ⟨a + 20, ds ++ [R1'], R2, by go_num, by go_num, hlt, by have := H1.out; have h2 := P1.out.length_eq; have := hl1.out; show _ = _; rw [flatten_one, List.length_append]; omega,
    by intro d hd; rcases List.mem_append.1 hd with hd | hd; exact H2.out d hd; rw [List.mem_singleton.1 hd, P1.out.length_eq]; exact hl1.out,
    H3.out.snoc O1.out (fun x hx => hd1.out x (P1.out.mem_iff.1 hx)) (fun d hd u hu v hv => H4.out.1 d hd u hu v (by rw [H12.out]; exact List.mem_append_left _ (P1.out.mem_iff.1 hv))),
    ⟨by intro d hd; rcases List.mem_append.1 hd with hd | hd; exact fun u hu v hv => H4.out.1 d hd u hu v (by rw [H12.out]; exact List.mem_append_right _ hv); rw [List.mem_singleton.1 hd]; exact fun u hu v hv => ho1.out.2.2 u (P1.out.mem_iff.1 hu) v hv, ho1.out.2.1, fun x hx => H4.out.2.2 x (by rw [H12.out]; simp [hx])⟩,
    by have h := H5.out; rw [H12.out] at h; show List.Perm _ _; rw [flatten_one, List.append_assoc]; exact (List.Perm.append_left _ (List.Perm.append_right _ P1.out)).trans h,
    grown_trans hg hg1, by rw [flatten_one, List.append_assoc]; exact hr1⟩
   case measure => simp [intOf]; omega
  ·
   go_wp2_with fail
   refine (insertion_end f cap cf dom prec g T c l a ds.flatten R wr hcf (HC.out.next hg) HT.out (by have h1 := H5.out.length_eq; have := HL.out; omega) hD hr H1.out H4.out.2.2 H4.out.2.1).mono ?_
   rintro ee w1 ⟨rfl, hg1, R', hr1, p1, o1⟩
   have hcs : Hid (∃ cs, cs.flatten = ds.flatten ++ R' ∧ Cut 20 cs ∧ Chunks cf prec dom cs) :=
    chunks_end ds R' (by omega) H2.out H3.out o1 (fun x hx => H4.out.2.2 x (p1.mem_iff.1 hx)) (fun d hd u hu v hv => H4.out.1 d hd u hu v (p1.mem_iff.1 hv)) (by
     have h1 := H5.out.length_eq; have h2 := p1.length_eq; have h3 := H1.out; have h4 := HL.out; rw [List.length_append] at h1; omega)
   obtain ⟨cs, hcs1, hcs2, hcs3⟩ := hcs.out
   have hp : Hid (cs.flatten.Perm D) := by show List.Perm _ _; rw [hcs1]; exact (List.Perm.append_left _ p1).trans H5.out
   rw [← hcs1] at hr1
   have HCU := Lib.hid hcs2; have HCH := Lib.hid hcs3; have hg2 := grown_trans hg hg1
   clear hcs hcs1 hcs2 hcs3 hr hg hg1 p1 o1 H1 H2 H3 H4 H5 hlt
   go_wp2
   go_loopw [6, 7, 8, 9] (fun v6 _ _ _ wr => ∃ (bs : Nat) (cs : List (List Int)), v6 = .int .i64 bs ∧ 20 ≤ bs ∧ bs ≤ 8000 ∧ Hid (Cut bs cs) ∧ Hid (Chunks cf prec dom cs) ∧ Hid (cs.flatten.Perm D) ∧ w.grownBy wr (some g) ∧ IntRow wr g T cs.flatten)
    (fun v6 _ _ _ _ => ((l : Int) - intOf v6).toNat)
   case atStart => exact ⟨20, cs, rfl, Nat.le_refl _, by omega, HCU, HCH, hp, hg2, hr1⟩
   case round =>
    clear hr1 hg2 HCU HCH hp cs
    obtain ⟨bs, cs, rfl, hb0, hb1, HCU, HCH, HP, hg, hr⟩ := hrel
    by_cases hlt : bs < l
    ·
     go_wp2
     have hfl : Hid (cs.flatten.length = l) := by have h1 := HP.out.length_eq; have h2 := HL.out; show _ = _; omega
     obtain ⟨wo, rfl⟩ : ∃ wo : World, wo = wr := ⟨_, rfl⟩
     go_loopw [7, 8] (fun v7 v8 wr => ∃ (a : Nat) (ds ts : List (List Int)), v7 = .int .i64 a ∧ v8 = .int .i64 (a + 2 * bs) ∧ a ≤ l ∧ Hid (a = ds.flatten.length) ∧ Hid (∀ d ∈ ds, d.length = 2 * bs) ∧ Hid (Cut bs ts) ∧ Hid (Chunks cf prec dom (ds ++ ts)) ∧
       Hid ((ds.flatten ++ ts.flatten).Perm D) ∧ w.grownBy wr (some g) ∧ IntRow wr g T (ds.flatten ++ ts.flatten))
      (fun v7 _ _ => ((l : Int) - intOf v7).toNat)
     case atStart => exact ⟨0, [], cs, rfl, by go_num, Nat.zero_le _, rfl, by simp [Hid], HCU, HCH, HP, hg, hr⟩
     case round =>
      clear hr hg HCU HCH HP hfl cs
      obtain ⟨a, ds, ts, rfl, rfl, hal, H1, H2, HCU, HCH, HP, hg, hr⟩ := hrel
      have hlen : Hid (l = ds.flatten.length + ts.flatten.length) := by have h1 := HP.out.length_eq; rw [List.length_append] at h1; have := HL.out; show _ = _; omega
      by_cases hlt2 : a + 2 * bs ≤ l
      ·
       obtain ⟨c1, c2, ts', hts, l1, l2, hcu⟩ := cut_two ts HCU.out (by omega) (by have := hlen.out; have := H1.out; omega)
       have hr1 : IntRow wr g T (ds.flatten ++ (c1 ++ (c2 ++ ts'.flatten))) := by rw [hts] at hr; simpa using hr
       have HTS := Lib.hid hts; have L1 := Lib.hid l1; have L2 := Lib.hid l2; have HCU2 := Lib.hid hcu
       have HCH2 : Hid (Chunks cf prec dom (ds ++ c1 :: c2 :: ts')) := by have := HCH.out; rw [hts] at this; exact this
       clear hr hts l1 l2 hcu HCU
       have hc3 := HCH2.out.append.2.1
       have S1 : Hid (c1.Pairwise prec) := hc3.sorted c1 (by simp)
       have S2 : Hid (c2.Pairwise prec) := hc3.sorted c2 (by simp)
       have D1 : Hid (∀ x ∈ c1, dom x) := hc3.dom c1 (by simp)
       have D2 : Hid (∀ x ∈ c2, dom x) := hc3.dom c2 (by simp)
       have X12 : Hid (Cross cf prec c1 c2) := (List.pairwise_cons.1 hc3.cross).1 c2 (by simp)
       clear hc3
       go_wp2_with fail
       refine (symMerge_any f cap cf dom prec g T c l hcf HT.out hD (c1.length + c2.length) c1 c2 (Nat.le_refl _) (by have := L1.out; omega) (by have := L2.out; omega) _ _ _ ds.flatten ts'.flatten wr (HC.out.next hg)
        (by have h1 := hlen.out; have h2 := congrArg (fun l => l.flatten.length) HTS.out; simp at h2 ⊢; simp at h1; omega) hr1 (by have h1 := H1.out; omega) (by have h1 := H1.out; have := L1.out; omega) (by have h1 := H1.out; have := L1.out; have := L2.out; omega)
        D1.out D2.out S1.out S2.out X12.out).mono ?_
       rintro ee w1 ⟨rfl, hg1, M, hr2, p1, o1⟩
       have P1 := Lib.hid p1; have O1 := Lib.hid o1
       clear hr1 p1 o1
       have lM : Hid (M.length = 2 * bs) := by have h1 := P1.out.length_eq; rw [List.length_append] at h1; have := L1.out; have := L2.out; show _ = _; omega
       go_wp2
       go_roundw
       case rel => exact ⟨a + 2 * bs, ds ++ [M], ts', by go_num, by go_num, hlt2, by have := H1.out; have := lM.out; show _ = _; rw [flatten_one, List.length_append]; omega,
        by intro d hd; rcases List.mem_append.1 hd with hd | hd; exact H2.out d hd; rw [List.mem_singleton.1 hd]; exact lM.out,
        HCU2, by have := HCH2.out.merge P1.out O1.out; simpa [Hid] using this,
        by have h := HP.out; rw [HTS.out] at h; show List.Perm _ _; rw [flatten_one, List.append_assoc]; refine (List.Perm.append_left _ (List.Perm.append_right _ P1.out)).trans ?_; simpa using h,
        grown_trans hg hg1, by rw [flatten_one, List.append_assoc]; exact hr2⟩
       case measure => simp [intOf]; omega
      ·
       by_cases hlt3 : a + bs < l
       ·
        obtain ⟨c1, c2, hts, l1, l2⟩ := cut_last ts HCU.out (by have := hlen.out; have := H1.out; omega) (by have := hlen.out; have := H1.out; omega)
        have hr1 : IntRow wr g T (ds.flatten ++ (c1 ++ (c2 ++ []))) := by rw [hts] at hr; simpa using hr
        have HTS := Lib.hid hts; have L1 := Lib.hid l1; have L2 := Lib.hid l2
        have HCH2 : Hid (Chunks cf prec dom (ds ++ [c1, c2])) := by have := HCH.out; rw [hts] at this; exact this
        have hlen2 : Hid (l = ds.flatten.length + (c1.length + c2.length)) := by have := hlen.out; rw [hts] at this; simpa [Hid] using this
        clear hr hts l1 l2 HCU
        have hc3 := HCH2.out.append.2.1
        have S1 : Hid (c1.Pairwise prec) := hc3.sorted c1 (by simp)
        have S2 : Hid (c2.Pairwise prec) := hc3.sorted c2 (by simp)
        have D1 : Hid (∀ x ∈ c1, dom x) := hc3.dom c1 (by simp)
        have D2 : Hid (∀ x ∈ c2, dom x) := hc3.dom c2 (by simp)
        have X12 : Hid (Cross cf prec c1 c2) := (List.pairwise_cons.1 hc3.cross).1 c2 (by simp)
        clear hc3
        go_wp2_with fail
        refine (symMerge_any f cap cf dom prec g T c l hcf HT.out hD (c1.length + c2.length) c1 c2 (Nat.le_refl _) (by have := L1.out; omega) L2.out _ _ _ ds.flatten [] wr (HC.out.next hg)
         (by have h1 := hlen2.out; simp; simp at h1; omega) hr1 (by have h1 := H1.out; omega) (by have h1 := H1.out; have := L1.out; omega) (by have h1 := hlen2.out; omega)
         D1.out D2.out S1.out S2.out X12.out).mono ?_
        rintro ee w1 ⟨rfl, hg1, M, hr2, p1, o1⟩
        have P1 := Lib.hid p1; have O1 := Lib.hid o1
        clear hr1 p1 o1
        have lM : Hid (0 < M.length ∧ M.length ≤ 2 * bs) := by have h1 := P1.out.length_eq; rw [List.length_append] at h1; have := L1.out; have := L2.out; have := hlen2.out; have := H1.out; exact ⟨by omega, by omega⟩
        go_wp2
        go_roundw
        case rel => exact ⟨2 * bs, ds ++ [M], by go_num, by omega, by omega, Cut.of_full ds [M] (by omega) H2.out ⟨lM.out.1, by simpa using lM.out.2, trivial⟩, HCH2.out.merge P1.out O1.out,
         by have h := HP.out; rw [HTS.out] at h; show List.Perm _ _; rw [flatten_one]; refine (List.Perm.append_left _ P1.out).trans ?_; simpa using h,
         grown_trans hg hg1, by rw [flatten_one]; simpa using hr2⟩
        case measure => simp [intOf]; omega
       ·
        have HCU2 : Hid (Cut (2 * bs) (ds ++ ts)) := Cut.of_full ds ts (by omega) H2.out (cut_wider ts HCU.out (by have := hlen.out; have := H1.out; omega))
        go_wp2
        go_roundw
        case rel => exact ⟨2 * bs, ds ++ ts, by go_num, by omega, by omega, HCU2, HCH, by simpa [Hid] using HP.out, hg, by simpa using hr⟩
        case measure => simp [intOf]; omega
    ·
     have hfin : Hid (cs.flatten.Pairwise prec) := by
      have h1 := HP.out.length_eq; have h2 := HL.out
      have h3 := HCU.out.one cs (by omega)
      match cs, h3, HCH with
      | [], _, _ => simp [Hid]
      | [c], _, h => simpa [Hid] using h.out.sorted c (by simp)
     go_wp2
     go_end0
     exact ⟨rfl, hg, _, hr, HP.out, hfin.out⟩
end Go.Proofs.YthabgljdndbphaaGreatDoor

namespace Go.Proofs.YthabgljdndbphaaGreatDoor
open Go.RowKit

set_option maxHeartbeats 400000 in
theorem sortStable_any (f : Nat) (cap : Array Value) (cf : Int → Int → Int) (dom : Int → Prop) (prec : Int → Int → Prop) (g T c l : Nat) (D : List Int) (w : World)
  (hcf : ∀ (args : Array Value) (w : World), (callFunc f args).run Tryz.prog w = .ok (.enter f args) w)
  (hcmp : CmpAt f cap cf dom g w) (htr : ∀ x y z, prec x y → prec y z → prec x z) (hl : l = D.length) (hD : l ≤ 4000) (hR : IntRow w g T D) (hdom : ∀ x ∈ D, dom x) (hok : D.Pairwise (Ok cf prec)) :
  Calls Tryz.prog 52 #[.slice (some ⟨g, 0, none⟩) l c, .func (.func f) #[] cap] w
   fun e w' => e = .returned (.tuple #[]) ∧ w.grownBy w' (some g) ∧ ∃ D', IntRow w' g T D' ∧ D'.Perm D ∧ D'.Pairwise prec := by
 have H := Lib.hid (stable_any f cap cf dom prec g T c l D w hcf hcmp htr hl hD hR hdom hok)
 clear hcmp htr hl hR hdom hok
 go_enter Tryz.func52, Tryz.ntmps52
 go_wp2_with fail
 refine H.out.mono ?_
 rintro e w1 ⟨rfl, hg, hx⟩
 have HX := Lib.hid hx; clear hx
 go_wp2
 go_end0
 exact ⟨rfl, hg, HX.out⟩

end Go.Proofs.YthabgljdndbphaaGreatDoor

namespace Go.Proofs.YthabgljdndbphaaGreatDoor
open Go.RowKit

def gs (l : List (Int × Int)) (i : Nat) : Int := (l.getD i (0, 0)).1
def gv (l : List (Int × Int)) (i : Nat) : Int := (l.getD i (0, 0)).2

/-- The address and length read as the pairs of integers xs. -/
def Pairs (w : World) (ra : Option Addr) (n : Nat) (xs : List (Int × Int)) : Prop :=
 xs.length = n ∧ ∀ k, k < n → ∃ b o, ra = some ⟨b, o, none⟩ ∧ w.cell? ⟨b, o + k * 2, none⟩ = some (.int .i64 (gs xs k)) ∧ w.cell? ⟨b, o + k * 2 + 1, none⟩ = some (.int .i64 (gv xs k))

theorem Pairs.below {w w' : World} {ra : Option Addr} {n : Nat} {xs : List (Int × Int)} (h : Pairs w ra n xs) (hb : Below w.heap.size w w') : Pairs w' ra n xs :=
 ⟨h.1, fun k hk => let ⟨b, o, e, c, d⟩ := h.2 k hk; ⟨b, o, e, Below.cell_of hb c, Below.cell_of hb d⟩⟩

theorem ret_bool {a b : Bool} (h : a = b) : Ending.returned (.bool a) = Ending.returned (.bool b) := by rw [h]

def badG (s v : Int) : Bool := decide (s < 1) || decide (12 < s) || decide (v < 0) || decide (1000000 < v)

set_option maxHeartbeats 400000 in
theorem bad_any (s v : Int) (w : World) :
  Calls Tryz.prog 41 #[.agg #[.int .i64 s, .int .i64 v]] w fun e w' => e = .returned (.bool (badG s v)) ∧ Below w.heap.size w w' := by
 by_cases h1 : s < 1
 ·
  have H : Hid (badG s v = true) := by simp [Hid, badG, h1]
  go_enter Tryz.func41, Tryz.ntmps41
  go_wp2
  go_ret
  exact ⟨by rw [H.out]; rfl, (Below.refl _ _).alloc (Nat.le_refl _) _⟩
 ·
  by_cases h2 : 12 < s
  ·
   have H : Hid (badG s v = true) := by simp [Hid, badG, h2]
   go_enter Tryz.func41, Tryz.ntmps41
   go_wp2
   go_ret
   exact ⟨by rw [H.out]; rfl, (Below.refl _ _).alloc (Nat.le_refl _) _⟩
  ·
   by_cases h3 : v < 0
   ·
    have H : Hid (badG s v = true) := by simp [Hid, badG, h3]
    go_enter Tryz.func41, Tryz.ntmps41
    go_wp2
    go_ret
    exact ⟨by rw [H.out]; rfl, (Below.refl _ _).alloc (Nat.le_refl _) _⟩
   ·
    go_enter Tryz.func41, Tryz.ntmps41
    go_wp2
    go_ret
    exact ⟨ret_bool (by rw [badG, decide_eq_false (show ¬ s < 1 by omega), decide_eq_false (show ¬ 12 < s by omega), decide_eq_false (show ¬ v < 0 by omega)]; rfl), (Below.refl _ _).alloc (Nat.le_refl _) _⟩

/-- The first place from k on, of n, where p holds; -1 if there is none. -/
def firstAt (p : Nat → Bool) (k : Nat) : Nat → Int
 | 0 => -1
 | n + 1 => if p k then k else firstAt p (k + 1) n

theorem firstAt_step (p : Nat → Bool) (n i : Nat) (h : i < n) : firstAt p i (n - i) = if p i then (i : Int) else firstAt p (i + 1) (n - (i + 1)) := by
 obtain ⟨m, hm⟩ : ∃ m, n - i = m + 1 := ⟨n - i - 1, by omega⟩
 rw [hm, firstAt, show n - (i + 1) = m from by omega]

set_option maxRecDepth 10000 in
set_option maxHeartbeats 400000 in
theorem index_groups (f : Nat) (cap : Array Value) (p : Int → Int → Bool) (ra : Option Addr) (n c : Nat) (G : List (Int × Int)) (w : World)
  (hn : n ≤ 4000) (hcf : ∀ (args : Array Value) (w : World), (callFunc f args).run Tryz.prog w = .ok (.enter f args) w) (hG : Pairs w ra n G)
  (hcl : ∀ k wr, Below w.heap.size w wr → k < n → Calls Tryz.prog f (#[.agg #[.int .i64 (gs G k), .int .i64 (gv G k)]] ++ cap) wr fun e w' => e = .returned (.bool (p (gs G k) (gv G k))) ∧ Below wr.heap.size wr w') :
  Calls Tryz.prog 56 #[.slice ra n c, .func (.func f) #[] cap] w fun e w' => e = .returned (.int .i64 (firstAt (fun k => p (gs G k) (gv G k)) 0 n)) ∧ Below w.heap.size w w' := by
 go_enter Tryz.func56, Tryz.ntmps56
 go_wp2
 go_loopw [4, 5, 8] (fun _ _ k wr => ∃ i : Nat, i ≤ n ∧ k = .int .i64 i ∧ Below w.heap.size w wr ∧ Hid (firstAt (fun k => p (gs G k) (gv G k)) 0 n = firstAt (fun k => p (gs G k) (gv G k)) i (n - i)))
  (fun _ _ k _ => n - (intOf k).toNat)
 case atStart => exact ⟨0, Nat.zero_le _, rfl, Below.refl _ _, rfl⟩
 case round =>
  obtain ⟨i, hi, rfl, hb, HR⟩ := hrel
  by_cases hlt : i < n
  ·
   obtain ⟨b, o, rfl, r1, r2⟩ := (hG.below hb).2 i hlt
   have HC := Lib.hid (hcl i wr hb hlt)
   have HS := Lib.hid (firstAt_step (fun k => p (gs G k) (gv G k)) n i hlt)
   clear hG hcl
   obtain ⟨q, hq⟩ : ∃ q, q = p (gs G i) (gv G i) := ⟨_, rfl⟩
   rw [← hq] at HC HS
   clear hq
   go_wp2_with fail
   refine HC.out.mono ?_
   rintro e w1 ⟨rfl, hb1⟩
   have hb2 := Lib.hid (hb.trans (hb1.mono hb.size))
   clear hb hb1 r1 r2
   cases q
   ·
    go_wp2
    go_roundw
    case rel => exact ⟨i + 1, by omega, by go_num, hb2.out, by rw [HR.out, HS.out]; simp [Hid]⟩
    case measure => simp [intOf]; omega
   ·
    go_wp2
    go_ret
    exact ⟨by rw [HR.out, HS.out]; simp, hb2.out⟩
  ·
   go_wp2
   go_ret
   exact ⟨by rw [HR.out, show n - i = 0 from by omega]; rfl, hb⟩

theorem firstAt_any (p : Nat → Bool) (n : Nat) : ∀ k, decide (0 ≤ firstAt p k n) = (List.range' k n).any p := by
 induction n with
 | zero => intro k; simp [firstAt]
 | succ n ih =>
  intro k
  rw [firstAt, List.range'_succ, List.any_cons]
  cases h : p k
  ·
   simp [← ih]
  ·
   simp

set_option maxHeartbeats 400000 in
theorem contains_groups (f : Nat) (cap : Array Value) (p : Int → Int → Bool) (ra : Option Addr) (n c : Nat) (G : List (Int × Int)) (w : World)
  (hn : n ≤ 4000) (hcf : ∀ (args : Array Value) (w : World), (callFunc f args).run Tryz.prog w = .ok (.enter f args) w) (hG : Pairs w ra n G)
  (hcl : ∀ k wr, Below w.heap.size w wr → k < n → Calls Tryz.prog f (#[.agg #[.int .i64 (gs G k), .int .i64 (gv G k)]] ++ cap) wr fun e w' => e = .returned (.bool (p (gs G k) (gv G k))) ∧ Below wr.heap.size wr w') :
  Calls Tryz.prog 42 #[.slice ra n c, .func (.func f) #[] cap] w fun e w' => e = .returned (.bool ((List.range n).any fun k => p (gs G k) (gv G k))) ∧ Below w.heap.size w w' := by
 have H := Lib.hid (index_groups f cap p ra n c G w hn hcf hG hcl)
 have HF : Hid (decide (0 ≤ firstAt (fun k => p (gs G k) (gv G k)) 0 n) = (List.range n).any fun k => p (gs G k) (gv G k)) := by rw [Hid, firstAt_any, List.range_eq_range']
 clear hcl hG
 generalize firstAt (fun k => p (gs G k) (gv G k)) 0 n = z at *
 go_enter Tryz.func42, Tryz.ntmps42
 go_wp2_with fail
 refine H.out.mono ?_
 rintro e w1 ⟨rfl, hb1⟩
 have hb := Lib.hid hb1
 clear hb1
 go_wp2
 go_ret
 exact ⟨ret_bool (by rw [← HF.out]), hb.out⟩

/-- The lengths of the runs add up to at most a length. -/
def runsOk (left : Int) : List Int → Bool
 | [] => true
 | n :: l => if n < 1 ∨ left < n then false else runsOk (left - n) l

def groupsOk (G : List (Int × Int)) : Bool := !(G.any fun g => badG g.1 g.2)

def validS (R : List Int) (G : List (Int × Int)) : Bool := runsOk 4000 R && (decide (G.length ≤ 4000) && groupsOk G)

theorem drop_ix (R : List Int) (i : Nat) (h : i < R.length) : R.drop i = ix R i :: R.drop (i + 1) := by
 rw [List.drop_eq_getElem_cons h]
 simp [ix, List.getD_eq_getElem?_getD, h]

theorem any_range (G : List (Int × Int)) (p : Int → Int → Bool) : ((List.range G.length).any fun k => p (gs G k) (gv G k)) = G.any fun g => p g.1 g.2 := by
 induction G with
 | nil => rfl
 | cons g G ih =>
  rw [List.length_cons, List.range_succ_eq_map, List.any_cons, List.any_cons, List.any_map, ← ih]
  rfl

theorem enter_bad (args : Array Value) (w : World) : (callFunc 41 args).run Tryz.prog w = .ok (.enter 41 args) w := by
 kernel_rfl

set_option maxRecDepth 10000 in
set_option maxHeartbeats 800000 in
theorem valid_any (ra ga : Option Addr) (n c m d : Nat) (single b : Bool) (R : List Int) (G : List (Int × Int)) (w : World)
  (hn : n ≤ 4000) (hm : m ≤ 4000) (hR : Ints w ra n R) (hG : Pairs w ga m G) (hb : validS R G = b) :
  Calls Tryz.prog 22 #[.agg #[.slice ra n c, .slice ga m d, .bool single]] w fun e w' => e = .returned (.bool b) ∧ Below w.heap.size w w' := by
 have HB := Lib.hid hb
 clear hb
 go_enter Tryz.func22, Tryz.ntmps22
 go_wp2
 go_loopw [3, 5, 10] (fun v3 _ k wr => ∃ (i : Nat) (left : Int), i ≤ n ∧ v3 = .int .i64 left ∧ k = .int .i64 i ∧ 0 ≤ left ∧ left ≤ 4000 ∧ wr.cell? ⟨w.heap.size, 1, none⟩ = some (.slice ga m d) ∧ Below w.heap.size w wr ∧ Hid (runsOk 4000 R = runsOk left (R.drop i)))
  (fun _ _ k _ => n - (intOf k).toNat)
 case atStart => exact ⟨0, 4000, Nat.zero_le _, rfl, rfl, by omega, by omega, by simp [World.cell?_alloc_new], (Below.refl _ _).alloc (Nat.le_refl _) _, rfl⟩
 case round =>
  obtain ⟨i, left, hi, rfl, rfl, hl0, hl1, hg1, hb, HR⟩ := hrel
  by_cases hlt : i < n
  ·
   obtain ⟨bb, o, rfl, r1⟩ := (hR.below hb).2 i hlt
   have HD := Lib.hid (drop_ix R i (by rw [hR.1]; exact hlt))
   obtain ⟨x, hx⟩ : ∃ x, x = ix R i := ⟨_, rfl⟩
   rw [← hx] at r1 HD
   clear hx hR hG
   by_cases h1 : x < 1
   ·
    have HF : Hid (validS R G = false) := by simp [Hid, validS, HR.out, HD.out, runsOk, h1]
    go_wp2
    go_ret
    exact ⟨by rw [← HB.out, HF.out]; rfl, hb⟩
   ·
    by_cases h2 : left < x
    ·
     have HF : Hid (validS R G = false) := by simp [Hid, validS, HR.out, HD.out, runsOk, h2]
     go_wp2
     go_ret
     exact ⟨by rw [← HB.out, HF.out]; rfl, hb⟩
    ·
     have HF : Hid (runsOk left (R.drop i) = runsOk (left - x) (R.drop (i + 1))) := by rw [HD.out]; simp [Hid, runsOk, h1, h2]
     go_wp2
     go_roundw
     case rel => exact ⟨i + 1, left - x, by omega, rfl, by go_num, by omega, by omega, hg1, hb, by rw [HR.out, HF.out]; rfl⟩
     case measure => simp [intOf]; omega
  ·
   have H0 : Hid (validS R G = groupsOk G) := by
    have : R.drop i = [] := List.drop_eq_nil_of_le (by rw [hR.1]; omega)
    have h2 := HR.out; rw [this] at h2
    simp [Hid, validS, h2, runsOk, hG.1, hm]
   have HC := Lib.hid (contains_groups 41 #[] badG ga m d G wr hm enter_bad (hG.below hb) (fun k wr' _ _ => by simpa using bad_any _ _ wr'))
   have HN := Lib.hid hG.1
   clear hR hG
   go_wp2_with fail
   refine HC.out.mono ?_
   rintro e w1 ⟨rfl, hb1⟩
   have hb2 := Lib.hid (hb.trans (hb1.mono hb.size))
   clear hb hb1
   go_wp2
   go_ret
   exact ⟨ret_bool (by rw [← HB.out, H0.out, groupsOk, ← any_range, HN.out]), hb2.out⟩
end Go.Proofs.YthabgljdndbphaaGreatDoor
