/- The judge's split: a step of kind 'split'; The judge's right: whether a step is right, by induction on the steps behind it; One pair is put into its row: what the append and the store leave. -/
import Derived.Test.YthabgljdndbphaaGreatDoorQPKL05
import Derived.Test.YthabgljdndbphaaGreatDoorQPKL36
import Derived.Deep.AppendLies

set_option linter.unusedVariables false
set_option linter.unusedSimpArgs false
namespace Go.Proofs.YthabgljdndbphaaGreatDoor
open Go.RowKit Go.IntWalk

/-- The order of the groups in memory. -/
def JOrd (w : World) (J : JA) (G : List (Int × Int)) : Prop := Ints w J.oa J.m (rankedL G)

theorem JFrame.ord {J : JA} {B : Nat} {w w' : World} {G : List (Int × Int)} (h : JFrame J w w') (hj : JOk J B) (ho : JOrd w J G) : JOrd w' J G := by
 refine ⟨ho.1, fun k hk => ?_⟩
 obtain ⟨b, o, e, c⟩ := ho.2 k hk
 have hlt := cell_lt c
 obtain ⟨h1, h2, h3, h4, h5⟩ := hj.ord _ e
 refine ⟨b, o, e, ?_⟩
 rw [World.cell?_of_block (w := w) (a := ⟨b, o + k, none⟩) (h.block b hlt h1 h2 h3 h4 h5)]
 exact c

theorem JMem.lts {w : World} {J : JA} {R : List Int} {G es : List (Int × Int)} {seen : List Bool} (h : JMem w J R G es seen) : J.jb < w.heap.size ∧ J.mb < w.heap.size ∧ J.ub < w.heap.size ∧ J.sb < w.heap.size ∧ J.rb < w.heap.size := by
 obtain ⟨arr, clock, h1, _⟩ := h.map
 exact ⟨lt_of_block h.box, lt_of_block h1, h.used.lt, h.seen.lt, h.rlt⟩

theorem decided_new {es : List (Int × Int)} {x : Int} (h : decidedB es x = false) : ∀ p ∈ es, p.1 ≠ x := by
 have key : ∀ (es : List (Int × Int)) (i : Nat), findI x es i = none → ∀ p ∈ es, p.1 ≠ x := by
  intro es
  induction es with
  | nil => intro _ _ p hp; simp at hp
  | cons q es ih =>
   intro i h p hp
   rw [findI] at h
   split at h
   ·
    simp at h
   ·
    rename_i hq
    rcases List.mem_cons.mp hp with rfl | hp
    ·
     exact hq
    ·
     exact ih _ h p hp
 unfold decidedB at h
 refine key es 0 ?_
 cases hf : findI x es 0 with
 | none => rfl
 | some _ => rw [hf] at h; simp at h

/-- What a call of right leaves. -/
def RightPost (J : JA) (R : List Int) (G es : List (Int × Int)) (out : Bool × List Bool) (w : World) (e : Ending) (w' : World) : Prop :=
 e = .returned (.bool out.1) ∧ out.2.length = J.k ∧ JMem w' J R G es out.2 ∧ JFrame J w w'

theorem kidsL_step (go : List (Int × Int) → List Bool → Nat → Bool × List Bool) (es : List (Int × Int)) (g : Int) (n k nR : Nat) (K : List Int) (r : Nat) (hr : r < K.length) (s : List Bool) :
  kidsL go es g n k nR r (K.drop r) s = if ix K r ≤ n ∨ k ≤ ix K r then (false, s)
   else if (go (es ++ [(g, if r = nR then -1 else (r : Int))]) s (ix K r).toNat).1 then kidsL go es g n k nR (r + 1) (K.drop (r + 1)) (go (es ++ [(g, if r = nR then -1 else (r : Int))]) s (ix K r).toNat).2
   else (false, (go (es ++ [(g, if r = nR then -1 else (r : Int))]) s (ix K r).toNat).2) := by
 rw [drop_ix K r hr]
 rfl

set_option maxRecDepth 10000 in
set_option maxHeartbeats 3200000 in
theorem jsplit_any (go : List (Int × Int) → List Bool → Nat → Bool × List Bool) (J : JA) (w0 w : World) (R : List Int) (G es : List (Int × Int)) (seen : List Bool) (T : List StepT) (t : Nat)
  (hj : JOk J w0.heap.size) (hm : JMem w J R G es seen) (hord : JOrd w J G) (hb : Below w0.heap.size w0 w) (hT : Steps w0 J.pa J.k T) (ht : t < J.k) (hG : Pairs w0 J.ga J.m G) (hv : ValuesOk G) (hR : R.length = J.n) (hRb : ∀ r, r < J.n → 1 ≤ ix R r ∧ ix R r ≤ 4000)
  (hes : EsOk J.n J.m es) (hl : es.length ≤ t) (hsl : seen.length = J.k) (hk : J.k ≤ 100000) (hn : J.n ≤ 4000) (_hmm : J.m ≤ 4000)
  (hgo : ∀ wx es' s' (x : Nat), t < x → x < J.k → es'.length ≤ x → EsOk J.n J.m es' → s'.length = J.k → JMem wx J R G es' s' → JOrd wx J G → Below w0.heap.size w0 wx →
   Calls Tryz.prog 38 #[.pointer (some ⟨J.jb, 0, none⟩), .int .i64 x] wx (RightPost J R G es' (go es' s' x) wx)) :
  Calls Tryz.prog 35 #[.pointer (some ⟨J.jb, 0, none⟩), .int .i64 t] w
   (RightPost J R G es (if (stepAt T t).group < 0 ∨ G.length ≤ (stepAt T t).group ∨ (stepAt T t).kids.length ≠ R.length + 1 ∨ decidedB es (stepAt T t).group = true then (false, seen)
    else kidsL go es (stepAt T t).group t T.length R.length 0 (stepAt T t).kids seen) w) := by
 obtain ⟨pb, po, ka, kc, hpa, c0, c1, c2, hK0⟩ := hT.2 t ht
 have c0 := Below.cell_of hb c0; have c1 := Below.cell_of hb c1; have c2 := Below.cell_of hb c2
 have hTl := hT.1
 obtain ⟨q, hq⟩ : ∃ x, (stepAt T t).group = x := ⟨_, rfl⟩
 obtain ⟨kd, hkd⟩ : ∃ x, (stepAt T t).kind = x := ⟨_, rfl⟩
 obtain ⟨K, hKK⟩ : ∃ x, (stepAt T t).kids = x := ⟨_, rfl⟩
 obtain ⟨kl, hkl⟩ : ∃ x, K.length = x := ⟨_, rfl⟩
 rw [hkd] at c0
 rw [hq] at c1
 rw [hKK, hkl] at c2 hK0
 rw [hq, hKK, hTl, hG.1, hR, hkl]
 generalize hout : (if q < 0 ∨ (J.m : Int) ≤ q ∨ kl ≠ J.n + 1 ∨ decidedB es q = true then (false, seen) else kidsL go es q t J.k J.n 0 K seen) = out
 have HOUT := Lib.hid hout
 clear hout
 have HKL := Lib.hid hkl
 clear hkl
 have e0 := hm.box.cell 0
 have e1 := hm.box.cell 1
 have e4 := hm.box.cell 4
 have e7 := hm.box.cell 7
 simp only [JA.cells, List.getElem?_toArray, List.getElem?_cons_zero, List.getElem?_cons_succ] at e0 e1 e4 e7
 rw [hpa] at e4
 have hlts := hm.lts
 have HA : Hid (∀ o, Below w.heap.size w (w.alloc o)) := fun o => (Below.refl _ _).alloc (Nat.le_refl _) _
 have HM1 := Lib.hid (hm.below (HA.out (.cells #[.int .i64 kd, .int .i64 q, .slice ka kl kc] 71)))
 have HBX : Hid (Box (w.alloc (.cells #[.int .i64 kd, .int .i64 q, .slice ka kl kc] 71)) w.heap.size 71 #[.int .i64 kd, .int .i64 q, .slice ka kl kc]) := Box.new rfl
 have HF1 := Lib.hid (JFrame.of_below (J := J) (HA.out (.cells #[.int .i64 kd, .int .i64 q, .slice ka kl kc] 71)))
 have HO1 : Hid (JOrd (w.alloc (.cells #[.int .i64 kd, .int .i64 q, .slice ka kl kc] 71)) J G) := HF1.out.ord hj hord
 have HB := Lib.hid hb; have HG := Lib.hid hG; have HV := Lib.hid hv; have HK0 := Lib.hid hK0; have HGO := Lib.hid hgo; have HES := Lib.hid hes; have HRB := Lib.hid hRb; have HSL := Lib.hid hsl
 have hlt0 : w0.heap.size ≤ w.heap.size := hb.size
 have hsz : w.heap.size < (w.alloc (.cells #[.int .i64 kd, .int .i64 q, .slice ka kl kc] 71)).heap.size := by simp
 clear hm hord hb hT hG hv hRb hes hgo hK0 hq hkd hKK hpa hTl HA hsl
 go_enter Tryz.func35, Tryz.ntmps35
 go_upto_region 2 with fail
 generalize (w.alloc (.cells #[.int .i64 kd, .int .i64 q, .slice ka kl kc] 71)) = w1 at *
 generalize hsb : w.heap.size = sx at *
 have HSX := Lib.hid hsb
 clear hsb c0 c1 c2 e0 e1 e4 e7
 have s1 := HBX.out.cell 1
 have s2 := HBX.out.cell 2
 have e0 := HM1.out.box.cell 0
 have e1 := HM1.out.box.cell 1
 have e7 := HM1.out.box.cell 7
 simp only [JA.cells, List.getElem?_toArray, List.getElem?_cons_zero, List.getElem?_cons_succ] at s1 s2 e0 e1 e7
 by_cases hq0 : q < 0
 ·
  have t1 : decide (q < 0) = true := by simp; omega
  have FI : Hid (out = (false, seen)) := by
   rw [← HOUT.out, if_pos (Or.inl hq0)]; exact rfl
  go_wp2_with fail
  go_quiet (fail)
  go_wp2
  go_ret
  rw [FI.out]
  exact ⟨rfl, HSL.out, HM1.out.below (below_drewN (Below.refl _ _) _), HF1.out.trans (JFrame.of_below (below_drewN (Below.refl _ _) _))⟩
 ·
  have t1 : decide (q < 0) = false := by simp; omega
  by_cases hqm : (J.m : Int) ≤ q
  ·
   have t2 : decide ((J.m : Int) ≤ q) = true := by simp; omega
   have FI : Hid (out = (false, seen)) := by
    rw [← HOUT.out, if_pos (Or.inr (Or.inl hqm))]; exact rfl
   go_wp2_with fail
   go_quiet (fail)
   go_wp2
   go_ret
   rw [FI.out]
   exact ⟨rfl, HSL.out, HM1.out.below (below_drewN (Below.refl _ _) _), HF1.out.trans (JFrame.of_below (below_drewN (Below.refl _ _) _))⟩
  ·
   obtain ⟨g, rfl⟩ : ∃ g : Nat, q = g := ⟨q.toNat, by omega⟩
   have hgm : g < J.m := by omega
   have hmg : ¬ J.m ≤ g := by omega
   clear hqm hq0
   by_cases hkn : kl = J.n + 1
   ·
    have t3 : ((kl : Int) != (J.n : Int) + 1) = false := by simp; omega
    have HKN := Lib.hid hkn
    clear hkn
    have hlk : (Instr.lookup 79 (.map (some J.mb)) (.int .i64 (g : Int)) true).run Tryz.prog w1 = .ok (.tuple #[.int .i64 (((findI (g : Int) es 0).map Prod.snd).getD 0), .bool (decidedB es g)]) w1 := lookup_run HM1.out.map (g : Int) true
    have hlq : ∀ u, (Instr.lookup 79 (.map (some J.mb)) (.int .i64 (g : Int)) true).run Tryz.prog (w1.drewN u) = .ok (.tuple #[.int .i64 (((findI (g : Int) es 0).map Prod.snd).getD 0), .bool (decidedB es g)]) (w1.drewN u) := fun u => lookup_run (HM1.out.below (below_drewN (Below.refl _ _) u)).map (g : Int) true
    generalize ((findI (g : Int) es 0).map Prod.snd).getD 0 = dv at *
    by_cases hdc : decidedB es g = true
    ·
     rw [hdc] at hlk hlq
     have FI : Hid (out = (false, seen)) := by
      rw [← HOUT.out, if_pos (Or.inr (Or.inr (Or.inr hdc)))]; exact rfl
     clear hdc
     go_wp2_with fail
     go_quiet (fail)
     go_wp2_with fail
     go_quiet (fail)
     go_wp2
     go_ret
     rw [FI.out]
     exact ⟨rfl, HSL.out, HM1.out.below (below_drewN (below_drewN (Below.refl _ _) _) _), HF1.out.trans (JFrame.of_below (below_drewN (below_drewN (Below.refl _ _) _) _))⟩
    ·
     have hdf : decidedB es g = false := by simpa using hdc
     rw [hdf] at hlk hlq
     have HDC := Lib.hid hdf
     have FI : Hid (out = kidsL go es (g : Int) t J.k J.n 0 K seen) := by
      rw [← HOUT.out, if_neg (by
       rintro (h | h | h | h)
       ·
        omega
       ·
        omega
       ·
        exact h HKN.out
       ·
        exact hdc h)]
      exact rfl
     clear hdc hdf
     go_wp2_with fail
     go_quiet (fail)
     go_wp2_with fail
     go_quiet (fail)
     go_upto_region 7 with fail
     generalize hw2 : World.drewN (World.drewN w1 _) _ = w2
     have hb2 : Below w1.heap.size w1 w2 := by rw [← hw2]; exact below_drewN (below_drewN (Below.refl _ _) _) _
     have HM2 := Lib.hid (HM1.out.below hb2)
     have HF2 : Hid (JFrame J w1 w2) := JFrame.of_below hb2
     have HBX2 := Lib.hid (HBX.out.below hb2)
     clear hw2 hb2 s1 s2 e0 e1 e7 hlk hlq t1 t3
     have s2 := HBX2.out.cell 2
     simp only [List.getElem?_toArray, List.getElem?_cons_zero, List.getElem?_cons_succ] at s2
     go_wp2_with fail
     clear s2
     go_loopw [8, 9, 58] (fun _ _ v58 wr => ∃ (r : Nat) (s : List Bool), v58 = .int .i64 r ∧ r ≤ kl ∧ Hid (s.length = J.k) ∧ Hid (JMem wr J R G es s) ∧ Hid (JFrame J w1 wr) ∧
       Hid (Box wr sx 71 #[.int .i64 kd, .int .i64 g, .slice ka kl kc]) ∧ Hid (out = kidsL go es (g : Int) t J.k J.n r (K.drop r) s))
      (fun _ _ v58 _ => kl - (intOf v58).toNat)
     case atStart => exact ⟨0, seen, rfl, Nat.zero_le _, HSL, HM2, HF2, HBX2, FI⟩
     case round =>
      clear HM2 HF2 HBX2 FI
      obtain ⟨r, s, rfl, hr, HSZ, HM, HF, HBX3, HO⟩ := hrel
      have hbr : Below w0.heap.size w0 wr := HB.out.trans ((HF1.out.trans HF.out).to_below hj (by rw [HSX.out]; exact hlt0))
      have HBR := Lib.hid hbr
      by_cases hlt : r < kl
      ·
       obtain ⟨kb, ko, rfl, kc0⟩ := (HK0.out.below hbr).2 r hlt
       have HST := Lib.hid (kidsL_step go es (g : Int) t J.k J.n K r (by rw [HKL.out]; exact hlt) s)
       rw [← HO.out] at HST
       obtain ⟨x, hx⟩ : ∃ x, ix K r = x := ⟨_, rfl⟩
       rw [hx] at kc0 HST
       obtain ⟨rr, hrr⟩ : ∃ x : Int, (if r = J.n then -1 else (r : Int)) = x := ⟨_, rfl⟩
       rw [hrr] at HST
       have hkn2 := HKN.out
       have hrk : r ≤ 4001 := by omega
       have hrb : -1 ≤ rr ∧ rr < J.n := by rw [← hrr]; split <;> omega
       have HRR := Lib.hid hrr
       have g1 := HBX3.out.cell 1
       have e0 := HM.out.box.cell 0
       have e4 := HM.out.box.cell 4
       simp only [JA.cells, List.getElem?_toArray, List.getElem?_cons_zero, List.getElem?_cons_succ] at g1 e0 e4
       clear hx hrr hkn2 hbr HO
       go_upto_region 10 with fail
       by_cases hrn : r = J.n
       ·
        have t5 : ((r : Int) == (J.n : Int)) = true := by simp; omega
        have t5' : (r == J.n) = true := by simp; omega
        have HRE : Hid (rr = -1) := by
         have := HRR.out
         rw [if_pos hrn] at this
         exact this.symm
        clear hrn HRR
        go_upto_region 12 with fail
        by_cases hxt : x ≤ t
        ·
         have e5 : decide (x ≤ (t : Int)) = true := by simp; omega
         have FI : Hid (out = (false, s)) := by
          rw [HST.out, if_pos (Or.inl hxt)]; exact rfl
         go_wp2_with fail
         go_ret
         rw [FI.out]
         exact ⟨rfl, HSZ.out, HM.out, HF1.out.trans HF.out⟩
        ·
         have e5 : decide (x ≤ (t : Int)) = false := by simp; omega
         by_cases hxk : (J.k : Int) ≤ x
         ·
          have e6 : decide ((J.k : Int) ≤ x) = true := by simp; omega
          have FI : Hid (out = (false, s)) := by
           rw [HST.out, if_pos (Or.inr hxk)]; exact rfl
          go_wp2_with fail
          go_ret
          rw [FI.out]
          exact ⟨rfl, HSZ.out, HM.out, HF1.out.trans HF.out⟩
         ·
          have e6 : decide ((J.k : Int) ≤ x) = false := by simp; omega
          obtain ⟨kk, rfl⟩ : ∃ kk : Nat, x = kk := ⟨x.toNat, by omega⟩
          have hkk : ¬ J.k ≤ kk := by omega
          have hkt : ¬ kk ≤ t := by omega
          rw [if_neg (by omega), Int.toNat_natCast] at HST
          have HKID := Lib.hid (kid_any J w0 wr R G es s g kk rr (fun q s' => (q, s') = go (es ++ [((g : Int), rr)]) s kk ∧ s'.length = J.k) hj HM.out HBR.out HG.out HV.out hR HRB.out hgm hrb HES.out (decided_new HDC.out) (by omega)
           (fun wx hmx hfx => (HGO.out wx (es ++ [((g : Int), rr)]) s kk (by omega) (by omega) (by simp; omega) (fun p hp => by
             rcases List.mem_append.mp hp with h | h
             ·
              exact HES.out p h
             ·
              rw [List.mem_singleton.mp h]; dsimp only; omega) HSZ.out hmx (hfx.ord hj (HF.out.ord hj HO1.out))
            (HBR.out.trans (hfx.to_below hj HBR.out.size))).mono (fun e w' h => ⟨_, _, h.1, ⟨rfl, h.2.1⟩, h.2.2.1, h.2.2.2⟩)))
          rw [HRE.out] at HKID HST
          clear hxt hxk e0 kc0
          go_wp2_with (go_at_call 54; refine HKID.out.mono ?_; rintro e w5 ⟨q, s', rfl, ⟨hgo5, hsl5⟩, hm5, hf5⟩)
          ·
           rename_i hq
           have hqf : q = false := by simpa using hq
           have FI : Hid (out = (false, s')) := by
            rw [HST.out, ← hgo5, hqf]; exact rfl
           go_ret
           rw [FI.out]
           exact ⟨rfl, hsl5, hm5, (HF1.out.trans HF.out).trans hf5⟩
          ·
           rename_i hq
           have hqt : q = true := by simpa using hq
           have FI : Hid (out = kidsL go es (g : Int) t J.k J.n (r + 1) (K.drop (r + 1)) s') := by
            rw [HST.out, ← hgo5, hqt]; exact rfl
           have hsx := HBX3.out.of_heap (hf5.block sx (lt_of_block HBX3.out) (by omega) (by omega) (by omega) (by omega) (by omega))
           exact ⟨⟨r + 1, s', by go_num, by omega, hsl5, hm5, HF.out.trans hf5, hsx, FI⟩, by simp [intOf]; omega⟩
       ·
        have t5 : ((r : Int) == (J.n : Int)) = false := by simp; omega
        have t5' : (r == J.n) = false := by simp; omega
        have HRE : Hid (rr = (r : Int)) := by
         have := HRR.out
         rw [if_neg hrn] at this
         exact this.symm
        clear hrn HRR
        go_upto_region 12 with fail
        by_cases hxt : x ≤ t
        ·
         have e5 : decide (x ≤ (t : Int)) = true := by simp; omega
         have FI : Hid (out = (false, s)) := by
          rw [HST.out, if_pos (Or.inl hxt)]; exact rfl
         go_wp2_with fail
         go_ret
         rw [FI.out]
         exact ⟨rfl, HSZ.out, HM.out, HF1.out.trans HF.out⟩
        ·
         have e5 : decide (x ≤ (t : Int)) = false := by simp; omega
         by_cases hxk : (J.k : Int) ≤ x
         ·
          have e6 : decide ((J.k : Int) ≤ x) = true := by simp; omega
          have FI : Hid (out = (false, s)) := by
           rw [HST.out, if_pos (Or.inr hxk)]; exact rfl
          go_wp2_with fail
          go_ret
          rw [FI.out]
          exact ⟨rfl, HSZ.out, HM.out, HF1.out.trans HF.out⟩
         ·
          have e6 : decide ((J.k : Int) ≤ x) = false := by simp; omega
          obtain ⟨kk, rfl⟩ : ∃ kk : Nat, x = kk := ⟨x.toNat, by omega⟩
          have hkk : ¬ J.k ≤ kk := by omega
          have hkt : ¬ kk ≤ t := by omega
          rw [if_neg (by omega), Int.toNat_natCast] at HST
          have HKID := Lib.hid (kid_any J w0 wr R G es s g kk rr (fun q s' => (q, s') = go (es ++ [((g : Int), rr)]) s kk ∧ s'.length = J.k) hj HM.out HBR.out HG.out HV.out hR HRB.out hgm hrb HES.out (decided_new HDC.out) (by omega)
           (fun wx hmx hfx => (HGO.out wx (es ++ [((g : Int), rr)]) s kk (by omega) (by omega) (by simp; omega) (fun p hp => by
             rcases List.mem_append.mp hp with h | h
             ·
              exact HES.out p h
             ·
              rw [List.mem_singleton.mp h]; dsimp only; omega) HSZ.out hmx (hfx.ord hj (HF.out.ord hj HO1.out))
            (HBR.out.trans (hfx.to_below hj HBR.out.size))).mono (fun e w' h => ⟨_, _, h.1, ⟨rfl, h.2.1⟩, h.2.2.1, h.2.2.2⟩)))
          rw [HRE.out] at HKID HST
          clear hxt hxk e0 kc0
          go_wp2_with (go_at_call 54; refine HKID.out.mono ?_; rintro e w5 ⟨q, s', rfl, ⟨hgo5, hsl5⟩, hm5, hf5⟩)
          ·
           rename_i hq
           have hqf : q = false := by simpa using hq
           have FI : Hid (out = (false, s')) := by
            rw [HST.out, ← hgo5, hqf]; exact rfl
           go_ret
           rw [FI.out]
           exact ⟨rfl, hsl5, hm5, (HF1.out.trans HF.out).trans hf5⟩
          ·
           rename_i hq
           have hqt : q = true := by simpa using hq
           have FI : Hid (out = kidsL go es (g : Int) t J.k J.n (r + 1) (K.drop (r + 1)) s') := by
            rw [HST.out, ← hgo5, hqt]; exact rfl
           have hsx := HBX3.out.of_heap (hf5.block sx (lt_of_block HBX3.out) (by omega) (by omega) (by omega) (by omega) (by omega))
           exact ⟨⟨r + 1, s', by go_num, by omega, hsl5, hm5, HF.out.trans hf5, hsx, FI⟩, by simp [intOf]; omega⟩
      ·
       have FI : Hid (out = (true, s)) := by
        rw [HO.out, List.drop_of_length_le (by rw [HKL.out]; omega)]; exact rfl
       go_wp2_with fail
       go_ret
       rw [FI.out]
       exact ⟨rfl, HSZ.out, HM.out, HF1.out.trans HF.out⟩
   ·
    have t3 : ((kl : Int) != (J.n : Int) + 1) = true := by simp; omega
    have FI : Hid (out = (false, seen)) := by
     rw [← HOUT.out, if_pos (Or.inr (Or.inr (Or.inl hkn)))]; exact rfl
    go_wp2_with fail
    go_quiet (fail)
    go_wp2
    go_ret
    rw [FI.out]
    exact ⟨rfl, HSL.out, HM1.out.below (below_drewN (Below.refl _ _) _), HF1.out.trans (JFrame.of_below (below_drewN (Below.refl _ _) _))⟩
end Go.Proofs.YthabgljdndbphaaGreatDoor

namespace Go.Proofs.YthabgljdndbphaaGreatDoor
open Go.RowKit Go.IntWalk

def kindF (jb : Nat) (kd : Int) : Value :=
 if kd = 1 then .func (.func 35) #[.pointer (some ⟨jb, 0, none⟩)] #[]
 else if kd = 2 then .func (.func 36) #[.pointer (some ⟨jb, 0, none⟩)] #[]
 else if kd = 3 then .func (.func 37) #[.pointer (some ⟨jb, 0, none⟩)] #[]
 else .nilFunc

theorem klook_run {w : World} {kb jb : Nat} (h : KMap w kb jb) (kd : Int) : (Instr.lookup 81 (.map (some kb)) (.int .i64 kd) false).run Tryz.prog w = .ok (kindF jb kd) w := by
 obtain ⟨arr, clock, h1, h2⟩ := h
 have hz : (zeroValue 84).run Tryz.prog w = .ok .nilFunc w := Tryz.zeroValue84 w
 have hf : ∃ r, Instr.findNow (.int .i64) (.int .i64 kd) arr.toList 0 = some r ∧ (match r with | some (_, v) => v | none => .nilFunc) = kindF jb kd := by
  obtain ⟨e1, e2, e3, hl⟩ : ∃ e1 e2 e3, arr.toList = [e1, e2, e3] := by
   have hl : arr.toList.length = 3 := by have := congrArg List.length h2; simpa using this
   match arr.toList, hl with
   | [a, b, c], _ => exact ⟨a, b, c, rfl⟩
  rw [hl] at h2 ⊢
  simp only [List.map_cons, List.map_nil, List.cons.injEq, Prod.mk.injEq, and_true] at h2
  obtain ⟨⟨k1, v1⟩, ⟨k2, v2⟩, k3, v3⟩ := h2
  unfold kindF
  by_cases a1 : kd = 1
  ·
   subst a1; exact ⟨_, by simp [Instr.findNow, k1, Instr.sameNow]; rfl, by simp [v1]⟩
  ·
   by_cases a2 : kd = 2
   ·
    subst a2; exact ⟨_, by simp [Instr.findNow, k1, k2, Instr.sameNow]; rfl, by simp [v2]⟩
   ·
    by_cases a3 : kd = 3
    ·
     subst a3; exact ⟨_, by simp [Instr.findNow, k1, k2, k3, Instr.sameNow]; rfl, by simp [v3]⟩
    ·
     have b1 : (kd == 1) = false := by simpa using a1
     have b2 : (kd == 2) = false := by simpa using a2
     have b3 : (kd == 3) = false := by simpa using a3
     exact ⟨none, by simp [Instr.findNow, k1, k2, k3, Instr.sameNow, b1, b2, b3], by simp [a1, a2, a3]⟩
 obtain ⟨r, hr, hv⟩ := hf
 have hk : MapKept.IsKey (.int .i64) (.int .i64 kd) := rfl
 have hc := MapKept.run_checkKey (w := w) Tryz.underlying3 hk arr.isEmpty 9999
 have hg := MapKept.run_findKey (w := w) Tryz.underlying3 hr
 rw [← hv]
 cases r with
 | none => simp [Instr.lookup, run_underlying Tryz.underlying81, MapKept.run_getObj_map h1, hc, hg, hz, Result.andThen]
 | some q => simp [Instr.lookup, run_underlying Tryz.underlying81, MapKept.run_getObj_map h1, hc, hg, Result.andThen]

theorem eql_nilFunc (w : World) : (binOp .eql 84 .nilFunc .nilFunc).run Tryz.prog w = .ok (.bool true) w := by kernel_rfl
theorem eql_func (fn : Fn) (a b : Array Value) (w : World) : (binOp .eql 84 (.func fn a b) .nilFunc).run Tryz.prog w = .ok (.bool false) w := by kernel_rfl

theorem enter_split (args : Array Value) (w : World) : (callFunc 35 args).run Tryz.prog w = .ok (.enter 35 args) w := by kernel_rfl
theorem enter_jbound (args : Array Value) (w : World) : (callFunc 36 args).run Tryz.prog w = .ok (.enter 36 args) w := by kernel_rfl
theorem enter_fits (args : Array Value) (w : World) : (callFunc 37 args).run Tryz.prog w = .ok (.enter 37 args) w := by kernel_rfl

set_option maxRecDepth 10000 in
set_option maxHeartbeats 3200000 in
theorem jright_any (f : Nat) : ∀ (J : JA) (w0 w : World) (R : List Int) (G es : List (Int × Int)) (seen : List Bool) (T : List StepT) (t : Nat),
  JOk J w0.heap.size → JMem w J R G es seen → JOrd w J G → Below w0.heap.size w0 w → Steps w0 J.pa J.k T → t < J.k → J.k ≤ t + f → Pairs w0 J.ga J.m G → ValuesOk G → R.length = J.n → (∀ r, r < J.n → 1 ≤ ix R r ∧ ix R r ≤ 4000) → R.sum ≤ 4000 →
  EsOk J.n J.m es → es.length ≤ t → seen.length = J.k → J.k ≤ 100000 → J.n ≤ 4000 → J.m ≤ 4000 →
  Calls Tryz.prog 38 #[.pointer (some ⟨J.jb, 0, none⟩), .int .i64 t] w (RightPost J R G es (rightS J.single R G J.most T f es seen t) w) := by
 induction f with
 | zero => intro J w0 w R G es seen T t _ _ _ _ _ ht hf; omega
 | succ f ih =>
  intro J w0 w R G es seen T t hj hm hord hb hT ht hf hG hv hR hRb hsum hes hl hsl hk hn hmm
  obtain ⟨pb, po, ka, kc, hpa, c0, _, _, _⟩ := hT.2 t ht
  have c0 := Below.cell_of hb c0
  have HTL := Lib.hid hT.1
  have e3 := hm.box.cell 4
  have e5 := hm.box.cell 5
  have e11 := hm.box.cell 11
  simp only [JA.cells, List.getElem?_toArray, List.getElem?_cons_zero, List.getElem?_cons_succ] at e3 e5 e11
  rw [hpa] at e3
  have sn := hm.seen.cell t (by rw [hsl]; exact ht)
  have sf := hm.seen.free t
  obtain ⟨kd, hkd⟩ : ∃ x, (stepAt T t).kind = x := ⟨_, rfl⟩
  rw [hkd] at c0
  have hlk := klook_run hm.kinds kd
  have hlq : ∀ u, (Instr.lookup 81 (.map (some J.kb)) (.int .i64 kd) false).run Tryz.prog (w.drewN u) = .ok (kindF J.jb kd) (w.drewN u) := fun u => klook_run (JGen.below hm (below_drewN (Below.refl _ _) u)).kinds kd
  generalize hout : rightS J.single R G J.most T (f + 1) es seen t = out
  rw [rightS, hkd] at hout
  have HOUT := Lib.hid hout
  have HJ := Lib.hid hj; have HM := Lib.hid hm; have HORD := Lib.hid hord; have HB := Lib.hid hb; have HT := Lib.hid hT; have HG := Lib.hid hG; have HV := Lib.hid hv; have HRB := Lib.hid hRb; have HES := Lib.hid hes; have HSL := Lib.hid hsl; have HIH := Lib.hid ih; have HRL := Lib.hid hR
  have hlts := hm.lts
  clear hj hm hord hb hT hG hv hRb hes hsl ih hkd hpa hout hR
  cases hsn : bx seen t
  ·
   rw [hsn] at sn
   have HSN := Lib.hid hsn
   clear hsn
   by_cases hkk : kd = 1 ∨ kd = 2 ∨ kd = 3
   ·
    have HKK := Lib.hid hkk
    obtain ⟨fn, hfn, hkf⟩ : ∃ fn, fn = (if kd = 1 then 35 else if kd = 2 then 36 else 37) ∧ kindF J.jb kd = .func (.func fn) #[.pointer (some ⟨J.jb, 0, none⟩)] #[] := by
     unfold kindF
     by_cases a1 : kd = 1
     ·
      exact ⟨_, rfl, by rw [if_pos a1, if_pos a1]⟩
     ·
      by_cases a2 : kd = 2
      ·
       exact ⟨_, rfl, by rw [if_neg a1, if_pos a2, if_neg a1, if_pos a2]⟩
      ·
       have a3 : kd = 3 := by omega
       exact ⟨_, rfl, by rw [if_neg a1, if_neg a2, if_pos a3, if_neg a1, if_neg a2]⟩
    rw [hkf] at hlk hlq
    have HFN := Lib.hid hfn
    have hq1 := eql_func
    have FS := Lib.hid ((⟨fun u => JGen.setSeen (JGen.below HM.out (below_drewN (Below.refl _ _) u)) HJ.out t (by rw [HSL.out]; exact ht) true, fun u => (JFrame.of_below (J := J) (below_drewN (Below.refl _ w) u)).trans (frame_set J.sb t (.bool true) (Or.inr (Or.inr (Or.inr (Or.inr rfl)))))⟩ :
     (∀ u, JGen ((w.drewN u).setCell ⟨J.sb, t, none⟩ (.bool true)) J (valS G es) es (roomS R G es) (usedS J.n es) (seen.set t true)) ∧ (∀ u, JFrame J w ((w.drewN u).setCell ⟨J.sb, t, none⟩ (.bool true)))))
    have hent : ∀ (args : Array Value) (w : World), (callFunc fn args).run Tryz.prog w = .ok (.enter fn args) w := by
     rw [hfn]
     intro args w
     split
     ·
      exact enter_split args w
     ·
      split
      ·
       exact enter_jbound args w
      ·
       exact enter_fits args w
    clear hkf hkk hfn
    go_enter Tryz.func38, Tryz.ntmps38
    go_wp2_with fail
    go_quiet (fail)
    go_upto_region 5 with fail
    generalize hw1 : World.setCell (World.drewN w _) _ _ = w1
    have hm1 : JMem w1 J R G es (seen.set t true) := by rw [← hw1]; exact FS.out.1 _
    have hf1 : JFrame J w w1 := by rw [← hw1]; exact FS.out.2 _
    have HF1 := Lib.hid hf1
    have hb1 : Below w0.heap.size w0 w1 := HB.out.trans (hf1.to_below HJ.out HB.out.size)
    have ho1 := hf1.ord HJ.out HORD.out
    have HC : Hid (Calls Tryz.prog fn #[.pointer (some ⟨J.jb, 0, none⟩), .int .i64 t] w1 (RightPost J R G es out w1)) := by
     have hs2 : (seen.set t true).length = J.k := by rw [List.length_set]; exact HSL.out
     rw [HFN.out]
     have ho := HOUT.out
     rw [if_neg (by rw [HSN.out]; exact fun h => h.elim (fun h => by simp at h) (fun h => h HKK.out))] at ho
     by_cases a1 : kd = 1
     ·
      rw [if_pos a1] at ho ⊢
      rw [← ho]
      exact jsplit_any (rightS J.single R G J.most T f) J w0 w1 R G es (seen.set t true) T t HJ.out hm1 ho1 hb1 HT.out ht HG.out HV.out HRL.out HRB.out HES.out hl hs2 hk hn hmm
       (fun wx es' s' x h1 h2 h3 h4 h5 h6 h7 h8 => HIH.out J w0 wx R G es' s' T x HJ.out h6 h7 h8 HT.out h2 (by omega) HG.out HV.out HRL.out HRB.out hsum h4 h3 h5 hk hn hmm)
     ·
      rw [if_neg a1] at ho ⊢
      by_cases a2 : kd = 2
      ·
       rw [if_pos a2] at ho ⊢
       rw [← ho]
       exact (jbound_any J w0 w1 R G es (seen.set t true) t hm1 hb1 HG.out ho1 HV.out HRL.out HRB.out hsum HES.out hn hmm (by omega)).mono (fun e w' h => ⟨h.1, hs2, JGen.below hm1 h.2, JFrame.of_below h.2⟩)
      ·
       rw [if_neg a2] at ho ⊢
       rw [← ho]
       exact (jfits_any J w0 w1 R G es (seen.set t true) T t hm1 hb1 HT.out ht HG.out.1 HV.out HRL.out HES.out).mono (fun e w' h => ⟨h.1, hs2, JGen.below hm1 h.2, JFrame.of_below h.2⟩)
    clear hw1 hm1 hf1 hb1 ho1 FS hlk hlq hq1 c0 e3 e5 e11 sn sf
    go_wp2_with (go_at_fn fn; refine HC.out.mono ?_; rintro e w5 ⟨rfl, hl5, hm5, hf5⟩)
    go_ret
    exact ⟨rfl, hl5, hm5, HF1.out.trans hf5⟩
   ·
    have hkf : kindF J.jb kd = .nilFunc := by
     unfold kindF
     rw [if_neg (fun h => hkk (Or.inl h)), if_neg (fun h => hkk (Or.inr (Or.inl h))), if_neg (fun h => hkk (Or.inr (Or.inr h)))]
    rw [hkf] at hlk hlq
    have FI : Hid (out = (false, seen)) := by
     rw [← HOUT.out, if_pos (Or.inr hkk)]; exact rfl
    have hq1 := eql_nilFunc
    clear hkf hkk
    go_enter Tryz.func38, Tryz.ntmps38
    go_wp2_with fail
    go_quiet (fail)
    go_wp2
    go_ret
    rw [FI.out]
    exact ⟨rfl, HSL.out, HM.out.below (below_drewN (Below.refl _ _) _), JFrame.of_below (below_drewN (Below.refl _ _) _)⟩
  ·
   rw [hsn] at sn
   have FI : Hid (out = (false, seen)) := by
    rw [← HOUT.out, if_pos (Or.inl hsn)]; exact rfl
   clear hsn
   go_enter Tryz.func38, Tryz.ntmps38
   go_wp2_with fail
   go_quiet (fail)
   go_wp2
   go_ret
   rw [FI.out]
   exact ⟨rfl, HSL.out, HM.out.below (below_drewN (Below.refl _ _) _), JFrame.of_below (below_drewN (Below.refl _ _) _)⟩
end Go.Proofs.YthabgljdndbphaaGreatDoor

namespace Go.Proofs.YthabgljdndbphaaGreatDoor
open Go.RowKit

theorem spotInfo : ∃ i, Tryz.prog.info? 46 = some i ∧ i.zero = some (.agg #[.int .i64 0, .int .i64 0]) ∧ i.size = 2 ∧ i.bytes = 16 := by
 have hinfo : (Tryz.prog.info? 46).map (fun i => (i.zero, i.size, i.bytes)) = some (some (.agg #[.int .i64 0, .int .i64 0]), 2, 16) := by kernel_rfl
 obtain ⟨i, hi, hzz⟩ := Option.map_eq_some_iff.1 hinfo
 simp only [Prod.mk.injEq] at hzz
 exact ⟨i, hi, hzz.1, hzz.2.1, hzz.2.2⟩

theorem placed_len (R : List Int) (G S : List (Int × Int)) : ∀ i q, placed R G S i = some q → ∀ r, (qx q.1 r).length ≤ i := by
 intro i
 induction i with
 | zero =>
  intro q h r
  simp [placed] at h; subst h
  by_cases hr : r < R.length
  ·
   simp [qx, List.getD, hr]
  ·
   simp [qx, List.getD, hr]
 | succ i ih =>
  intro q h r
  have hlen := fun p hp => placed_length R G S i p hp
  rw [placed] at h
  cases hp : placed R G S i with
  | none => rw [hp] at h; simp at h
  | some p =>
   rw [hp] at h
   simp only [Option.bind_some] at h
   have i1 := ih p hp
   split at h
   ·
    simp at h; subst h; have := i1 r; omega
   ·
    split at h
    ·
     simp at h
    ·
     rename_i hb
     simp at h; subst h
     unfold badSpot at hb
     dsimp only
     rw [qx_set _ _ _ _ (by rw [hlen p hp]; omega)]
     split
     ·
      rw [List.length_append]; have := i1 (gs S i).toNat; simp; omega
     ·
      have := i1 r; omega

section
variable {w4 w5 : World} {g tn g' cap' H bs : Nat} {s f : Int} {Q : List (List (Int × Int))} {vr : Value} {o : Obj}

theorem push_far (hgrow : (w4.drew.alloc o).grownBy w5 vr.ownBlock) (a : Addr) (ha : a.block < w4.heap.size) (hne : ∀ b, vr.ownBlock = some b → b ≠ a.block) : w5.heap[a.block]? = w4.heap[a.block]? := by
 rw [hgrow.block a.block (by show a.block < (w4.heap.push o).size; simp; omega) (fun e => hne _ e.symm rfl)]
 exact Below.heap_alloc w4.drew o _ ha

theorem push_facts (hR : Rows2 w4 (g + 1) g Q) (hq : tn < Q.length) (cr : w4.cell? ⟨g, tn, none⟩ = some vr) (hvlt : ∀ b, vr.ownBlock = some b → g + 1 ≤ b ∧ b < bs)
  (hown : w5.ownsRow (g + 1) 46 2 (.slice (some ⟨g', 0, none⟩) ((qx Q tn).length + 1) cap') ((qx Q tn).length + 1) (pcells (qx Q tn) ++ pcells [(s, f)]))
  (hgrow : (w4.drew.alloc o).grownBy w5 vr.ownBlock) (hat : vr.ownBlock = some g' ∨ g' = w4.heap.size + 1) :
  Rows2 (w5.setCell ⟨g, tn, none⟩ (.slice (some ⟨g', 0, none⟩) ((qx Q tn).length + 1) cap')) (g + 1) g (Q.set tn (qx Q tn ++ [(s, f)])) ∧
   Below g w4 (w5.setCell ⟨g, tn, none⟩ (.slice (some ⟨g', 0, none⟩) ((qx Q tn).length + 1) cap')) ∧
   ∀ k, bs ≤ k → g < k → k < w4.heap.size → (w5.setCell ⟨g, tn, none⟩ (.slice (some ⟨g', 0, none⟩) ((qx Q tn).length + 1) cap')).heap[k]? = w4.heap[k]? := by
 have hb : Below w4.heap.size w4 (w4.drew.alloc o) := (Below.refl _ _).drew.alloc (Nat.le_refl _) _
 have hg4 : g < w4.heap.size := by
  obtain ⟨_, vs, h1, _⟩ := hR
  exact lt_of_block h1
 refine ⟨Rows2.push (hR.below hb) tn hq vr _ (s, f) ?_ hown hgrow ?_, ?_, fun k hk hgk hk4 => ?_⟩
 ·
  have := Below.cell_of hb cr; exact this
 ·
  rcases hat with e | e
  ·
   left; rw [e]; rfl
  ·
   right; exact ⟨g', rfl, by rw [e]; show (w4.heap.push o).size ≤ _; simp⟩
 ·
  have h1 : Below g w4 w5 := (hb.mono (by omega)).grown hgrow (by have := hb.size; omega) (fun k hk => by have := (hvlt k hk).1; omega)
  exact h1.setCell (p := ⟨g, tn, none⟩) (Nat.le_refl _) _
 ·
  rw [heap_set k (by omega)]
  exact push_far hgrow ⟨k, 0, none⟩ hk4 (fun b hb => by have := (hvlt b hb).2; dsimp only; omega)
end
end Go.Proofs.YthabgljdndbphaaGreatDoor
