/- The judge's right: whether a step is right, by induction on the steps behind it; One pair is put into its row: what the append and the store leave; A row in order, gone through; and the rows behind a sort. -/
import Derived.Test.YthabgljdndbphaaGreatDoorQPKM09
import Derived.Test.YthabgljdndbphaaGreatDoorQPKM32
import Derived.Deep.AppendLies

set_option linter.unusedVariables false
set_option linter.unusedSimpArgs false
namespace Go.Proofs.YthabgljdndbphaaGreatDoor
open Go.RowKit Go.IntWalk

def kindF (jb : Nat) (kd : Int) : Value :=
 if kd = 1 then .func (.func 35) #[.pointer (some ⟨jb, 0, none⟩)] #[]
 else if kd = 2 then .func (.func 36) #[.pointer (some ⟨jb, 0, none⟩)] #[]
 else if kd = 3 then .func (.func 37) #[.pointer (some ⟨jb, 0, none⟩)] #[]
 else .nilFunc

theorem klook_run {w : World} {kb jb : Nat} (h : KMap w kb jb) (kd : Int) : (Instr.lookup 81 (.map (some kb)) (.int .i64 kd) false).run Tryz.prog w = .ok (kindF jb kd) w := by
 obtain ⟨arr, clock, h1, h2⟩ := h
 have hz : (zeroValue 84).run Tryz.prog w = .ok .nilFunc w := Tryz.zeroValue84 w
 have hf : ∃ r, Instr.findNow (.int .i64) (.int .i64 kd) arr.toList 0 = some r ∧ (match r with | some (_, v) => v | none => .nilFunc) = kindF jb kd := by
  obtain ⟨e1, e2, e3, hl⟩ : ∃ e1 e2 e3, arr.toList = [e1, e2, e3] := by
   have hl : arr.toList.length = 3 := by have := congrArg List.length h2; simpa using this
   match arr.toList, hl with
   | [a, b, c], _ => exact ⟨a, b, c, rfl⟩
  rw [hl] at h2 ⊢
  simp only [List.map_cons, List.map_nil, List.cons.injEq, Prod.mk.injEq, and_true] at h2
  obtain ⟨⟨k1, v1⟩, ⟨k2, v2⟩, k3, v3⟩ := h2
  unfold kindF
  by_cases a1 : kd = 1
  ·
   subst a1; exact ⟨_, by simp [Instr.findNow, k1, Instr.sameNow]; rfl, by simp [v1]⟩
  ·
   by_cases a2 : kd = 2
   ·
    subst a2; exact ⟨_, by simp [Instr.findNow, k1, k2, Instr.sameNow]; rfl, by simp [v2]⟩
   ·
    by_cases a3 : kd = 3
    ·
     subst a3; exact ⟨_, by simp [Instr.findNow, k1, k2, k3, Instr.sameNow]; rfl, by simp [v3]⟩
    ·
     have b1 : (kd == 1) = false := by simpa using a1
     have b2 : (kd == 2) = false := by simpa using a2
     have b3 : (kd == 3) = false := by simpa using a3
     exact ⟨none, by simp [Instr.findNow, k1, k2, k3, Instr.sameNow, b1, b2, b3], by simp [a1, a2, a3]⟩
 obtain ⟨r, hr, hv⟩ := hf
 have hk : MapKept.IsKey (.int .i64) (.int .i64 kd) := rfl
 have hc := MapKept.run_checkKey (w := w) Tryz.underlying3 hk arr.isEmpty 9999
 have hg := MapKept.run_findKey (w := w) Tryz.underlying3 hr
 rw [← hv]
 cases r with
 | none => simp [Instr.lookup, run_underlying Tryz.underlying81, MapKept.run_getObj_map h1, hc, hg, hz, Result.andThen]
 | some q => simp [Instr.lookup, run_underlying Tryz.underlying81, MapKept.run_getObj_map h1, hc, hg, Result.andThen]

theorem eql_nilFunc (w : World) : (binOp .eql 84 .nilFunc .nilFunc).run Tryz.prog w = .ok (.bool true) w := by kernel_rfl
theorem eql_func (fn : Fn) (a b : Array Value) (w : World) : (binOp .eql 84 (.func fn a b) .nilFunc).run Tryz.prog w = .ok (.bool false) w := by kernel_rfl

theorem enter_split (args : Array Value) (w : World) : (callFunc 35 args).run Tryz.prog w = .ok (.enter 35 args) w := by kernel_rfl
theorem enter_jbound (args : Array Value) (w : World) : (callFunc 36 args).run Tryz.prog w = .ok (.enter 36 args) w := by kernel_rfl
theorem enter_fits (args : Array Value) (w : World) : (callFunc 37 args).run Tryz.prog w = .ok (.enter 37 args) w := by kernel_rfl

set_option maxRecDepth 10000 in
set_option maxHeartbeats 3200000 in
theorem jright_any (f : Nat) : ∀ (J : JA) (w0 w : World) (R : List Int) (G es : List (Int × Int)) (seen : List Bool) (T : List StepT) (t : Nat),
  JOk J w0.heap.size → JMem w J R G es seen → JOrd w J G → Below w0.heap.size w0 w → Steps w0 J.pa J.k T → t < J.k → J.k ≤ t + f → Pairs w0 J.ga J.m G → ValuesOk G → R.length = J.n → (∀ r, r < J.n → 1 ≤ ix R r ∧ ix R r ≤ 4000) → R.sum ≤ 4000 →
  EsOk J.n J.m es → es.length ≤ t → seen.length = J.k → J.k ≤ 100000 → J.n ≤ 4000 → J.m ≤ 4000 →
  Calls Tryz.prog 38 #[.pointer (some ⟨J.jb, 0, none⟩), .int .i64 t] w (RightPost J R G es (rightS J.single R G J.most T f es seen t) w) := by
 induction f with
 | zero => intro J w0 w R G es seen T t _ _ _ _ _ ht hf; omega
 | succ f ih =>
  intro J w0 w R G es seen T t hj hm hord hb hT ht hf hG hv hR hRb hsum hes hl hsl hk hn hmm
  obtain ⟨pb, po, ka, kc, hpa, c0, _, _, _⟩ := hT.2 t ht
  have c0 := Below.cell_of hb c0
  have HTL := Lib.hid hT.1
  have e3 := hm.box.cell 4
  have e5 := hm.box.cell 5
  have e11 := hm.box.cell 11
  simp only [JA.cells, List.getElem?_toArray, List.getElem?_cons_zero, List.getElem?_cons_succ] at e3 e5 e11
  rw [hpa] at e3
  have sn := hm.seen.cell t (by rw [hsl]; exact ht)
  have sf := hm.seen.free t
  obtain ⟨kd, hkd⟩ : ∃ x, (stepAt T t).kind = x := ⟨_, rfl⟩
  rw [hkd] at c0
  have hlk := klook_run hm.kinds kd
  have hlq : ∀ u, (Instr.lookup 81 (.map (some J.kb)) (.int .i64 kd) false).run Tryz.prog (w.drewN u) = .ok (kindF J.jb kd) (w.drewN u) := fun u => klook_run (JGen.below hm (below_drewN (Below.refl _ _) u)).kinds kd
  generalize hout : rightS J.single R G J.most T (f + 1) es seen t = out
  rw [rightS, hkd] at hout
  have HOUT := Lib.hid hout
  have HJ := Lib.hid hj; have HM := Lib.hid hm; have HORD := Lib.hid hord; have HB := Lib.hid hb; have HT := Lib.hid hT; have HG := Lib.hid hG; have HV := Lib.hid hv; have HRB := Lib.hid hRb; have HES := Lib.hid hes; have HSL := Lib.hid hsl; have HIH := Lib.hid ih; have HRL := Lib.hid hR
  have hlts := hm.lts
  clear hj hm hord hb hT hG hv hRb hes hsl ih hkd hpa hout hR
  cases hsn : bx seen t
  ·
   rw [hsn] at sn
   have HSN := Lib.hid hsn
   clear hsn
   by_cases hkk : kd = 1 ∨ kd = 2 ∨ kd = 3
   ·
    have HKK := Lib.hid hkk
    obtain ⟨fn, hfn, hkf⟩ : ∃ fn, fn = (if kd = 1 then 35 else if kd = 2 then 36 else 37) ∧ kindF J.jb kd = .func (.func fn) #[.pointer (some ⟨J.jb, 0, none⟩)] #[] := by
     unfold kindF
     by_cases a1 : kd = 1
     ·
      exact ⟨_, rfl, by rw [if_pos a1, if_pos a1]⟩
     ·
      by_cases a2 : kd = 2
      ·
       exact ⟨_, rfl, by rw [if_neg a1, if_pos a2, if_neg a1, if_pos a2]⟩
      ·
       have a3 : kd = 3 := by omega
       exact ⟨_, rfl, by rw [if_neg a1, if_neg a2, if_pos a3, if_neg a1, if_neg a2]⟩
    rw [hkf] at hlk hlq
    have HFN := Lib.hid hfn
    have hq1 := eql_func
    have FS := Lib.hid ((⟨fun u => JGen.setSeen (JGen.below HM.out (below_drewN (Below.refl _ _) u)) HJ.out t (by rw [HSL.out]; exact ht) true, fun u => (JFrame.of_below (J := J) (below_drewN (Below.refl _ w) u)).trans (frame_set J.sb t (.bool true) (Or.inr (Or.inr (Or.inr (Or.inr rfl)))))⟩ :
     (∀ u, JGen ((w.drewN u).setCell ⟨J.sb, t, none⟩ (.bool true)) J (valS G es) es (roomS R G es) (usedS J.n es) (seen.set t true)) ∧ (∀ u, JFrame J w ((w.drewN u).setCell ⟨J.sb, t, none⟩ (.bool true)))))
    have hent : ∀ (args : Array Value) (w : World), (callFunc fn args).run Tryz.prog w = .ok (.enter fn args) w := by
     rw [hfn]
     intro args w
     split
     ·
      exact enter_split args w
     ·
      split
      ·
       exact enter_jbound args w
      ·
       exact enter_fits args w
    clear hkf hkk hfn
    go_enter Tryz.func38, Tryz.ntmps38
    go_wp2_with fail
    go_quiet (fail)
    go_upto_region 5 with fail
    generalize hw1 : World.setCell (World.drewN w _) _ _ = w1
    have hm1 : JMem w1 J R G es (seen.set t true) := by rw [← hw1]; exact FS.out.1 _
    have hf1 : JFrame J w w1 := by rw [← hw1]; exact FS.out.2 _
    have HF1 := Lib.hid hf1
    have hb1 : Below w0.heap.size w0 w1 := HB.out.trans (hf1.to_below HJ.out HB.out.size)
    have ho1 := hf1.ord HJ.out HORD.out
    have HC : Hid (Calls Tryz.prog fn #[.pointer (some ⟨J.jb, 0, none⟩), .int .i64 t] w1 (RightPost J R G es out w1)) := by
     have hs2 : (seen.set t true).length = J.k := by rw [List.length_set]; exact HSL.out
     rw [HFN.out]
     have ho := HOUT.out
     rw [if_neg (by rw [HSN.out]; exact fun h => h.elim (fun h => by simp at h) (fun h => h HKK.out))] at ho
     by_cases a1 : kd = 1
     ·
      rw [if_pos a1] at ho ⊢
      rw [← ho]
      exact jsplit_any (rightS J.single R G J.most T f) J w0 w1 R G es (seen.set t true) T t HJ.out hm1 ho1 hb1 HT.out ht HG.out HV.out HRL.out HRB.out HES.out hl hs2 hk hn hmm
       (fun wx es' s' x h1 h2 h3 h4 h5 h6 h7 h8 => HIH.out J w0 wx R G es' s' T x HJ.out h6 h7 h8 HT.out h2 (by omega) HG.out HV.out HRL.out HRB.out hsum h4 h3 h5 hk hn hmm)
     ·
      rw [if_neg a1] at ho ⊢
      by_cases a2 : kd = 2
      ·
       rw [if_pos a2] at ho ⊢
       rw [← ho]
       exact (jbound_any J w0 w1 R G es (seen.set t true) t hm1 hb1 HG.out ho1 HV.out HRL.out HRB.out hsum HES.out hn hmm (by omega)).mono (fun e w' h => ⟨h.1, hs2, JGen.below hm1 h.2, JFrame.of_below h.2⟩)
      ·
       rw [if_neg a2] at ho ⊢
       rw [← ho]
       exact (jfits_any J w0 w1 R G es (seen.set t true) T t hm1 hb1 HT.out ht HG.out.1 HV.out HRL.out HES.out).mono (fun e w' h => ⟨h.1, hs2, JGen.below hm1 h.2, JFrame.of_below h.2⟩)
    clear hw1 hm1 hf1 hb1 ho1 FS hlk hlq hq1 c0 e3 e5 e11 sn sf
    go_wp2_with (go_at_fn fn; refine HC.out.mono ?_; rintro e w5 ⟨rfl, hl5, hm5, hf5⟩)
    go_ret
    exact ⟨rfl, hl5, hm5, HF1.out.trans hf5⟩
   ·
    have hkf : kindF J.jb kd = .nilFunc := by
     unfold kindF
     rw [if_neg (fun h => hkk (Or.inl h)), if_neg (fun h => hkk (Or.inr (Or.inl h))), if_neg (fun h => hkk (Or.inr (Or.inr h)))]
    rw [hkf] at hlk hlq
    have FI : Hid (out = (false, seen)) := by
     rw [← HOUT.out, if_pos (Or.inr hkk)]; exact rfl
    have hq1 := eql_nilFunc
    clear hkf hkk
    go_enter Tryz.func38, Tryz.ntmps38
    go_wp2_with fail
    go_quiet (fail)
    go_wp2
    go_ret
    rw [FI.out]
    exact ⟨rfl, HSL.out, HM.out.below (below_drewN (Below.refl _ _) _), JFrame.of_below (below_drewN (Below.refl _ _) _)⟩
  ·
   rw [hsn] at sn
   have FI : Hid (out = (false, seen)) := by
    rw [← HOUT.out, if_pos (Or.inl hsn)]; exact rfl
   clear hsn
   go_enter Tryz.func38, Tryz.ntmps38
   go_wp2_with fail
   go_quiet (fail)
   go_wp2
   go_ret
   rw [FI.out]
   exact ⟨rfl, HSL.out, HM.out.below (below_drewN (Below.refl _ _) _), JFrame.of_below (below_drewN (Below.refl _ _) _)⟩
end Go.Proofs.YthabgljdndbphaaGreatDoor

namespace Go.Proofs.YthabgljdndbphaaGreatDoor
open Go.RowKit

theorem spotInfo : ∃ i, Tryz.prog.info? 46 = some i ∧ i.zero = some (.agg #[.int .i64 0, .int .i64 0]) ∧ i.size = 2 ∧ i.bytes = 16 := by
 have hinfo : (Tryz.prog.info? 46).map (fun i => (i.zero, i.size, i.bytes)) = some (some (.agg #[.int .i64 0, .int .i64 0]), 2, 16) := by kernel_rfl
 obtain ⟨i, hi, hzz⟩ := Option.map_eq_some_iff.1 hinfo
 simp only [Prod.mk.injEq] at hzz
 exact ⟨i, hi, hzz.1, hzz.2.1, hzz.2.2⟩

theorem placed_len (R : List Int) (G S : List (Int × Int)) : ∀ i q, placed R G S i = some q → ∀ r, (qx q.1 r).length ≤ i := by
 intro i
 induction i with
 | zero =>
  intro q h r
  simp [placed] at h; subst h
  by_cases hr : r < R.length
  ·
   simp [qx, List.getD, hr]
  ·
   simp [qx, List.getD, hr]
 | succ i ih =>
  intro q h r
  have hlen := fun p hp => placed_length R G S i p hp
  rw [placed] at h
  cases hp : placed R G S i with
  | none => rw [hp] at h; simp at h
  | some p =>
   rw [hp] at h
   simp only [Option.bind_some] at h
   have i1 := ih p hp
   split at h
   ·
    simp at h; subst h; have := i1 r; omega
   ·
    split at h
    ·
     simp at h
    ·
     rename_i hb
     simp at h; subst h
     unfold badSpot at hb
     dsimp only
     rw [qx_set _ _ _ _ (by rw [hlen p hp]; omega)]
     split
     ·
      rw [List.length_append]; have := i1 (gs S i).toNat; simp; omega
     ·
      have := i1 r; omega

section
variable {w4 w5 : World} {g tn g' cap' H bs : Nat} {s f : Int} {Q : List (List (Int × Int))} {vr : Value} {o : Obj}

theorem push_far (hgrow : (w4.drew.alloc o).grownBy w5 vr.ownBlock) (a : Addr) (ha : a.block < w4.heap.size) (hne : ∀ b, vr.ownBlock = some b → b ≠ a.block) : w5.heap[a.block]? = w4.heap[a.block]? := by
 rw [hgrow.block a.block (by show a.block < (w4.heap.push o).size; simp; omega) (fun e => hne _ e.symm rfl)]
 exact Below.heap_alloc w4.drew o _ ha

theorem push_facts (hR : Rows2 w4 (g + 1) g Q) (hq : tn < Q.length) (cr : w4.cell? ⟨g, tn, none⟩ = some vr) (hvlt : ∀ b, vr.ownBlock = some b → g + 1 ≤ b ∧ b < bs)
  (hown : w5.ownsRow (g + 1) 46 2 (.slice (some ⟨g', 0, none⟩) ((qx Q tn).length + 1) cap') ((qx Q tn).length + 1) (pcells (qx Q tn) ++ pcells [(s, f)]))
  (hgrow : (w4.drew.alloc o).grownBy w5 vr.ownBlock) (hat : vr.ownBlock = some g' ∨ g' = w4.heap.size + 1) :
  Rows2 (w5.setCell ⟨g, tn, none⟩ (.slice (some ⟨g', 0, none⟩) ((qx Q tn).length + 1) cap')) (g + 1) g (Q.set tn (qx Q tn ++ [(s, f)])) ∧
   Below g w4 (w5.setCell ⟨g, tn, none⟩ (.slice (some ⟨g', 0, none⟩) ((qx Q tn).length + 1) cap')) ∧
   ∀ k, bs ≤ k → g < k → k < w4.heap.size → (w5.setCell ⟨g, tn, none⟩ (.slice (some ⟨g', 0, none⟩) ((qx Q tn).length + 1) cap')).heap[k]? = w4.heap[k]? := by
 have hb : Below w4.heap.size w4 (w4.drew.alloc o) := (Below.refl _ _).drew.alloc (Nat.le_refl _) _
 have hg4 : g < w4.heap.size := by
  obtain ⟨_, vs, h1, _⟩ := hR
  exact lt_of_block h1
 refine ⟨Rows2.push (hR.below hb) tn hq vr _ (s, f) ?_ hown hgrow ?_, ?_, fun k hk hgk hk4 => ?_⟩
 ·
  have := Below.cell_of hb cr; exact this
 ·
  rcases hat with e | e
  ·
   left; rw [e]; rfl
  ·
   right; exact ⟨g', rfl, by rw [e]; show (w4.heap.push o).size ≤ _; simp⟩
 ·
  have h1 : Below g w4 w5 := (hb.mono (by omega)).grown hgrow (by have := hb.size; omega) (fun k hk => by have := (hvlt k hk).1; omega)
  exact h1.setCell (p := ⟨g, tn, none⟩) (Nat.le_refl _) _
 ·
  rw [heap_set k (by omega)]
  exact push_far hgrow ⟨k, 0, none⟩ hk4 (fun b hb => by have := (hvlt b hb).2; dsimp only; omega)
end
end Go.Proofs.YthabgljdndbphaaGreatDoor

namespace Go.Proofs.YthabgljdndbphaaGreatDoor
open Go.RowKit

theorem owns_pairs {w : World} {B n : Nat} {v : Value} {L : List (Int × Int)} (h : w.ownsRow B 46 2 v n (pcells L)) : ∃ ao cap, v = .slice ao n cap ∧ Pairs w ao n L := by
 have hl : L.length = n := by
  have := h.1
  rw [pcells_length] at this; omega
 rcases h.2 with ⟨rfl, rfl⟩ | ⟨g, cap, cur, rfl, hBg, hg, hnc, hcm, hcs, htake⟩
 ·
  exact ⟨none, 0, rfl, hl, fun k hk => absurd hk (by omega)⟩
 ·
  refine ⟨_, cap, rfl, hl, fun k hk => ⟨g, 0, rfl, ?_, ?_⟩⟩
  all_goals
   obtain ⟨g1, g2⟩ := pcells_get L k (by omega)
   simp only [World.cell?, hg, Nat.zero_add]
  ·
   rw [← htake, List.getElem?_take, if_pos (by omega), Array.getElem?_toList] at g1
   exact g1
  ·
   rw [← htake, List.getElem?_take, if_pos (by omega), Array.getElem?_toList] at g2
   exact g2

/-- A row is put in another order, in place. -/
theorem Rows2.sorted {w w1 : World} {B g : Nat} {Q : List (List (Int × Int))} (h : Rows2 w B g Q) (r : Nat) (hr : r < Q.length) (v : Value) (L : List (Int × Int)) (hv : w.cell? ⟨g, r, none⟩ = some v)
  (hl : L.length = (qx Q r).length) (hown : w1.ownsRow B 46 2 v (qx Q r).length (pcells L)) (hgrow : w.grownBy w1 v.ownBlock) : Rows2 w1 B g (Q.set r L) := by
 obtain ⟨h0, vs, h1, h2, h3⟩ := h
 have hvr : vs[r]? = some v := by simp only [World.cell?, h1] at hv; exact hv
 have hg1 : w1.heap[g]? = some (.cells vs 29 (0, 0)) := by
  rw [hgrow.block g (lt_of_block h1) (fun e => ?_)]
  ·
   exact h1
  ·
   obtain ⟨u, e1, ho⟩ := h2 r hr
   rw [hvr] at e1
   obtain rfl : v = u := by simpa using e1
   have := (ho.lt g e.symm).1
   omega
 refine ⟨h0, vs, hg1, fun s hs => ?_, fun s t u u' hs ht hst e1 e2 => ?_⟩
 ·
  rw [List.length_set] at hs
  by_cases hrs : r = s
  ·
   subst hrs
   rw [qx_set _ _ _ _ hr, if_pos rfl]
   exact ⟨v, hvr, by rw [hl]; exact hown⟩
  ·
   rw [qx_set _ _ _ _ hr, if_neg hrs]
   obtain ⟨u, e, ho⟩ := h2 s hs
   exact ⟨u, e, ho.kept hgrow (h3 s r u v hs hr (fun e => hrs e.symm) e hvr)⟩
 ·
  rw [List.length_set] at hs ht
  exact h3 s t u u' hs ht hst e1 e2

theorem chain_append (single : Bool) (B : List (Int × Int)) : ∀ (A : List (Int × Int)) (a : Int), chain single a (A ++ B) = (chain single a A).bind fun e => chain single e B := by
 intro A
 induction A with
 | nil => intro a; rfl
 | cons x A ih =>
  intro a
  rw [List.cons_append, chain, chain]
  split
  ·
   rfl
  ·
   exact ih _

theorem chain_one (single : Bool) (e : Int) (x : Int × Int) : chain single e [x] = if x.2 < e ∨ (single = true ∧ x.2 = e + 1) then none else some (x.2 + x.1) := by
 rw [chain, chain]

theorem take_pair (L : List (Int × Int)) (i : Nat) (hi : i < L.length) : L.take (i + 1) = L.take i ++ [(gs L i, gv L i)] := by
 have e : L[i] = (gs L i, gv L i) := by unfold gs gv; simp [List.getD, hi]
 rw [← e, List.take_append_getElem]

theorem pair_mem (L : List (Int × Int)) (i : Nat) (hi : i < L.length) : (gs L i, gv L i) ∈ L := by
 have e : L[i] = (gs L i, gv L i) := by unfold gs gv; simp [List.getD, hi]
 rw [← e]
 exact List.getElem_mem hi

theorem chain_none (single : Bool) (L : List (Int × Int)) (i : Nat) (h : chain single 0 (L.take i) = none) : chain single 0 L = none := by
 rw [← List.take_append_drop i L, chain_append, h]; rfl

/-- One more of the row: where it ends now. -/
theorem chain_step (single : Bool) (L : List (Int × Int)) (i : Nat) (hi : i < L.length) (a : Int) (h : chain single 0 (L.take i) = some a) :
  chain single 0 (L.take (i + 1)) = if gv L i < a ∨ (single = true ∧ gv L i = a + 1) then none else some (gv L i + gs L i) := by
 rw [take_pair L i hi, chain_append, h, Option.bind_some, chain_one]

theorem rowOk_none {single : Bool} {n : Int} {L : List (Int × Int)} (h : chain single 0 L = none) : rowOk single n L = false := by
 unfold rowOk; rw [h]

theorem rowOk_some {single : Bool} {n a : Int} {L : List (Int × Int)} (h : chain single 0 L = some a) : rowOk single n L = !(single && (decide (0 < a) && decide (a = n - 1))) := by
 unfold rowOk; rw [h]
end Go.Proofs.YthabgljdndbphaaGreatDoor
