/- foyerref27.Book: the walk. -/
import Derived.Test.YtafhdpalobalkaaLF2
namespace Go.Proofs.Ytafhdpalobalkaa
open Go.RowKit Go.IntWalk Go.Maps Go.ChangeMaps

theorem addS_len : ∀ (L : List PostT) (p : PostT), (addS L p).length ≤ L.length + 1
  | [], p => by rw [addS]; split <;> simp
  | x :: L, p => by
    have ih := addS_len L p
    rw [addS]
    split
    · simp only [List.length_cons]; omega
    · split
      · split
        · simp only [List.length_cons]; omega
        · simp
      · split <;> simp

/-- The list of balances, looked over. -/
theorem range_any {Lf l : List PostT} {f : AccT → Int} (h : IsBal Lf (sumF f l l.length)) (hn : ∀ a, -1000000000000 ≤ f a ∧ f a ≤ 1000000000000) {p : Nat} (hp : p < Lf.length) (hfar : 1000000000000 < pa Lf p ∨ pa Lf p < -1000000000000) : rangeS f l = 2 := by
  refine range_yes rfl ?_
  have hat := (h.at hp).1
  by_cases hex : ∃ i, i < l.length ∧ (pk l i, pn l i) = (pk Lf p, pn Lf p)
  · obtain ⟨i, hi, e⟩ := hex
    rw [← any_range l _, List.any_eq_true]
    refine ⟨i, List.mem_range.mpr hi, ?_⟩
    unfold farB
    dsimp only
    rw [e, hat]
    simp only [Bool.or_eq_true, decide_eq_true_eq]
    exact hfar
  · rw [sumF_out (fun i hi e => hex ⟨i, hi, e⟩) l.length (Nat.le_refl _)] at hat
    have := hn (pk Lf p, pn Lf p)
    omega

theorem range_none {Lf l : List PostT} {f : AccT → Int} (h : IsBal Lf (sumF f l l.length)) (hno : ∀ p, p < Lf.length → -1000000000000 ≤ pa Lf p ∧ pa Lf p ≤ 1000000000000) : rangeS f l = 0 := by
  refine range_no rfl ?_
  rw [List.any_eq_false]
  intro x _
  unfold farB
  simp only [Bool.or_eq_true, decide_eq_true_eq]
  by_cases hz : sumF f l l.length x.1 = 0
  · omega
  · obtain ⟨i, hi, e⟩ := List.getElem_of_mem (h.all x.1 hz)
    have h1 := hno i hi
    rw [pa_eq _ _ hi, e] at h1
    dsimp only at h1
    omega

/-- What each of the four effects leaves, where the reference adds a booking to its list. -/
def FD (B : Nat) (rs : List RawT) (x : Value) (id : Int) (ra : Option Addr) (n c : Nat) (k : Nat) (u : Value) (w : World) : Prop :=
  match k with
  | 0 => FA B rs [] id ra n c 1 u w
  | 1 => u = x
  | 2 => FA B rs [] id ra n c 2 u w
  | _ => FA B rs [] id ra n c 3 u w

def bkD (rs : List RawT) (k : Nat) (u : Value) : Option Nat :=
  match k with
  | 2 => bkA rs 2 u
  | _ => none

theorem FD.below {B : Nat} {rs : List RawT} {x : Value} {id : Int} {ra : Option Addr} {n c : Nat} (k : Nat) (u : Value) (w w' : World) (h : FD B rs x id ra n c k u w) (hb : Below w.heap.size w w') : FD B rs x id ra n c k u w' := by
  unfold FD at *
  match k with
  | 0 => exact FA.below 1 u w w' h hb
  | 1 => exact h
  | 2 => exact FA.below 2 u w w' h hb
  | k + 3 => exact FA.below 3 u w w' h hb

def RBookPost (T : Nat → Prop) (g : Nat) (Bs : List BookT) (rs : List RawT) (b : BookT) (r : RawT) (w : World) (e : Ending) (w' : World) : Prop :=
  e = .returned (.int .i64 (bookE Bs b)) ∧ Upd T w w' ∧ ∃ (T' : Nat → Prop) (rs' : List RawT), RefAt w' T' g (bookS Bs b) rs' ∧ (∀ i, T' i → T i ∨ w.heap.size ≤ i) ∧ (bookE Bs b = 0 → rs' = rs ++ [r]) ∧ (bookE Bs b ≠ 0 → rs' = rs)

theorem RBookPost.no {T : Nat → Prop} {g : Nat} {Bs : List BookT} {rs : List RawT} {b : BookT} {r : RawT} {w w' : World} {x : Int} (h : RefAt w T g Bs rs) (hb : Below w.heap.size w w') (hx : bookE Bs b = x) (h0 : x ≠ 0) : RBookPost T g Bs rs b r w (.returned (.int .i64 x)) w' := by
  refine ⟨by rw [hx], Upd.of_below hb, T, rs, ?_, fun i hi => Or.inl hi, fun h => by omega, fun _ => rfl⟩
  unfold bookS
  rw [if_neg (by omega)]
  exact h.below hb

set_option maxRecDepth 10000 in
set_option maxHeartbeats 3200000 in
theorem rbook_any (T : Nat → Prop) (g : Nat) (Bs : List BookT) (rs : List RawT) (id : Int) (ra : Option Addr) (n c : Nat) (l : List PostT) (w : World) (hL : RefAt w T g Bs rs) (hbs : Bs.length < 100) (hn : n ≤ 9223372036854775807) (hP : Posts w ra n l) (hw : ∀ i, i < l.length → (pn l i).length ≤ maxLen ∧ (Lit.int .i64 (pk l i)).wf = true) :
    Calls Try.prog 13 #[.pointer (some ⟨g, 0, none⟩), .agg #[.int .i64 id, .slice ra n c]] w (RBookPost T g Bs rs (id, l) (id, (ra, n, c)) w) := by
  have HL := Lib.hid hL
  have HP := Lib.hid hP
  have HW := Lib.hid hw
  have hll := hP.1
  have hal := Joins.below_alloc1 w (.cells #[.int .i64 id, .slice ra n c] 34)
  have hnew := World.alloc_heap_new w (.cells #[.int .i64 id, .slice ra n c] 34)
  obtain ⟨w1, hw1⟩ : ∃ w1, w1 = w.alloc (.cells #[.int .i64 id, .slice ra n c] 34) := ⟨_, rfl⟩
  rw [← hw1] at hal hnew
  have HA := Lib.hid hal
  have HX : Hid (Boxed2 w1 w.heap.size (.int .i64 id) (.slice ra n c) 34) := hnew
  clear hL hP hw hal hnew
  go_enter Try.func13, Try.ntmps13
  go_upto_region 1 with fail
  rw [← hw1]
  clear hw1
  have x0 := HX.out.c0
  have x1 := HX.out.c1
  go_wp2_with fail
  change Calls Try.prog 24 _ _ _
  refine (rformed_any id ra n c l w1 hn (HP.out.below HA.out) (fun i hi => by have := (HW.out i (by omega)).1; unfold maxLen at this; omega)).mono ?_
  rintro e w2 ⟨rfl, hb2⟩
  have HB2 := Lib.hid (HA.out.trans (hb2.mono HA.out.size))
  have HX2 := Lib.hid (HX.out.step hb2)
  clear hb2 x0 x1 HX HA
  have x0 := HX2.out.c0
  have x1 := HX2.out.c1
  cases hf : formedS (id, l)
  · have HE : Hid (bookE Bs (id, l) = 1) := by
      have h1 : formE (id, l) = 1 := by unfold formE isE; rw [hf]; rfl
      show _ = _
      rw [bookE_1 (by omega), h1]
    clear hf
    go_wp2_with fail
    go_ret
    exact RBookPost.no HL.out HB2.out HE.out (by decide)
  · have HF1 : Hid (formE (id, l) = 0) := by show _ = _; unfold formE isE; rw [hf]; rfl
    have HFD := Lib.hid hf
    clear hf
    have hl20 := (formed_len HFD.out).2
    dsimp only at hl20
    go_wp2_with fail
    change Calls Try.prog 25 _ _ _
    refine (rtotal_any ra n c l w2 hn (HP.out.below HB2.out)).mono ?_
    rintro e w3 ⟨rfl, rfl⟩
    rw [← hll]
    obtain ⟨tt, htt⟩ : ∃ tt, tt = totW l l.length := ⟨_, rfl⟩
    rw [← htt]
    by_cases hz : tt = 0
    · have HF2 : Hid (zeroE l = 0) := by
        show _ = _
        unfold zeroE isE
        rw [← htt, hz]
        rfl
      subst hz
      clear htt
      obtain ⟨L, va, vb, nn, m, hc⟩ := HL.out.below HB2.out
      obtain ⟨lv, cv, rfl, hov⟩ := OwnRecs.of_row hc.rows
      have g0 : w2.cell? ⟨g, 0, none⟩ = some (.slice lv nn cv) := by rw [cell_of_row _ _ _ _ _ _ hc.box]; rfl
      have hnn : nn = Bs.length := by have := hov.1; have := hc.len; omega
      have HRR := Lib.hid hov.recs
      have HC := Lib.hid hc
      have HNN := Lib.hid hnn
      have hnn100 : nn ≤ 100 := by have := hc.ok.len; omega
      clear hnn
      have hn100 := hc.ok.len
      clear hov hc
      go_wp2_with fail
      go_loopw [5] (fun v5 wr => ∃ i : Nat, v5 = .int .i64 i ∧ i ≤ nn ∧ Hid (∃ q, wr = w2.drewN q) ∧ Hid (∀ j (hj : j < Bs.length), j < i → (Bs[j]).1 ≠ id)) (fun v5 _ => nn - (intOf v5).toNat)
      case atStart => exact ⟨0, rfl, Nat.zero_le _, ⟨0, rfl⟩, fun j _ hj => by omega⟩
      case round =>
        obtain ⟨i, rfl, hi, HQ, HNO⟩ := hrel
        have hbq := below_q HQ.out
        have g0' := Below.cell_of hbq g0
        have x0' := Below.cell_of hbq x0
        have x1' := Below.cell_of hbq x1
        clear hbq
        by_cases hlt : i < nn
        · have hib : i < Bs.length := by have := HNN.out; omega
          obtain ⟨b, o, e, cc⟩ := HRR.out.2 i hlt
          subst e
          have hrl : i < rs.length := by have := HRR.out.1; omega
          have c0 : wr.cell? ⟨b, o + i * 2, none⟩ = some (.int .i64 (Bs[i]).1) := by
            have := cc 0 (by omega)
            rw [rc_eq _ _ hrl] at this
            rw [← HC.out.ids i hrl hib]
            exact Below.cell_of (below_q HQ.out) this
          obtain ⟨z, hz⟩ : ∃ z, z = (Bs[i]).1 := ⟨_, rfl⟩
          rw [← hz] at c0
          clear cc
          by_cases hzi : z = id
          · subst hzi
            have HE : Hid (bookE Bs (z, l) = 9) := by
              have h3 : hasId Bs z = true := by
                unfold hasId
                rw [List.any_eq_true]
                exact ⟨_, List.getElem_mem hib, by simp [hz]⟩
              have h4 : twiceE Bs z = 9 := by unfold twiceE isE; rw [h3]; rfl
              show _ = _
              rw [bookE_3 HF1.out HF2.out (by show twiceE Bs z ≠ 0; omega)]
              exact h4
            clear hz
            go_upto_region 8 with fail
            go_quiet (fail)
            go_wp2_with fail
            go_ret
            exact RBookPost.no HL.out (HB2.out.trans ((below_q (quiet_more HQ.out _)).mono HB2.out.size)) HE.out (by decide)
          · have hz0 : (z == id) = false := by simp [hzi]
            have HZ : Hid ((Bs[i]).1 ≠ id) := by rw [← hz]; exact hzi
            clear hz hzi
            go_upto_region 8 with fail
            go_quiet (fail)
            go_wp2_with fail
            go_roundw
            case rel => exact ⟨i + 1, by go_num, by omega, quiet_more HQ.out _, fun j hj hji => by
              by_cases e : j = i
              · subst e; exact HZ.out
              · exact HNO.out j hj (by omega)⟩
            case measure => simp [intOf]; omega
        · have hi' : i = nn := by omega
          subst hi'
          have HF3 : Hid (twiceE Bs id = 0) := by
            have h3 := hasId_no (Bs := Bs) (x := id) (fun j hj => HNO.out j hj (by have := HNN.out; omega))
            show _ = _
            unfold twiceE isE
            rw [h3]
            rfl
          obtain ⟨w3, rfl⟩ : ∃ w3 : World, w3 = wr := ⟨wr, rfl⟩
          have HB3 : Hid (Below w.heap.size w w3) := HB2.out.trans ((below_q HQ.out).mono HB2.out.size)
          have HX3 := Lib.hid (HX2.out.step (below_q HQ.out))
          have HC3 := Lib.hid (HC.out.below (below_q HQ.out))
          have HRR3 := Lib.hid (HRR.out.below (below_q HQ.out))
          have g1' : w3.cell? ⟨g, 1, none⟩ = some vb := by rw [cell_of_row _ _ _ _ _ _ HC3.out.box]; rfl
          clear HNO HQ HC HRR HX2 HB2 x0 x1 g0
          go_wp2_with fail
          go_loopw [6, 7] (fun v6 v7 wr => ∃ (j kj : Nat) (Lj : List PostT), v7 = .int .i64 j ∧ j ≤ n ∧ kj ≤ m + j ∧ Hid (wr.ownsRow 0 44 3 v6 kj (flat PostE Lj)) ∧ Hid (IsBal Lj (sumF (balS Bs) l j)) ∧ Hid (Below w3.heap.size w3 wr) ∧ Hid (∀ r, v6.ownBlock = some r → (T r ∧ r ≠ g) ∨ w.heap.size + 1 ≤ r)) (fun _ v7 _ => n - (intOf v7).toNat)
          case atStart => exact ⟨0, m, L, rfl, Nat.zero_le _, Nat.le_refl _, HC3.out.sums, HC3.out.bal, Below.refl _ _, fun r hr => Or.inl (HC3.out.mb r hr)⟩
          case round =>
            obtain ⟨j, kj, Lj, rfl, hj, hkj, HO, HI, HBW, HBK⟩ := hrel
            have hm := HC3.out.few
            have hbx := HX3.out.step HBW.out
            have y0 := hbx.c0
            have y1 := hbx.c1
            clear hbx g0' x0' x1' g1'
            by_cases hlt2 : j < n
            · obtain ⟨b, o, e, p0, p1, p2⟩ := Posts.at (HP.out.below (HB3.out.trans (HBW.out.mono HB3.out.size))) j hlt2
              subst e
              have hamt := formed_amt HFD.out (i := j) (by show j < l.length; omega)
              dsimp only at hamt
              have hljl : Lj.length = kj := by have := HO.out.1; rw [flat_len] at this; omega
              have HADD := Lib.hid (add_any u6 0 kj Lj (pk l j) (pn l j) (pa l j) wr HO.out (by omega) hamt (fun q hq => by
                have h1 := (HI.out.at (i := q) (by omega)).1
                have h2 := sumF_le (l := l) HC3.out.ok.near (fun q hq => formed_amt HFD.out hq) j (by omega) (pk Lj q, pn Lj q)
                rw [h1] at h2
                omega))
              have HIN : Hid (IsBal (addS Lj ((pk l j, pn l j), pa l j)) (sumF (balS Bs) l (j + 1))) := add_isBal _ HI.out
              have hlen := addS_len Lj ((pk l j, pn l j), pa l j)
              clear hamt
              go_wp2_with fail
              refine HADD.out.mono ?_
              rintro e w5 ⟨v', k', rfl, hb5, ho5⟩
              have HO5 := Lib.hid ho5
              have HB5 := Lib.hid hb5
              have hk' : k' ≤ kj + 1 := by have := ho5.1; rw [flat_len] at this; omega
              clear HADD hb5 ho5 hlen y0 y1 p0 p1 p2
              go_wp2_with fail
              go_roundw
              case rel =>
                have h3 := HB3.out.size
                have h4 := HBW.out.size
                have h5 := lt_of_block HX3.out
                exact ⟨j + 1, k', _, by go_num, hlt2, by omega, row_base (Nat.zero_le _) HO5.out, HIN, HBW.out.trans (HB5.out.mono HBW.out.size), fun r hr => Or.inr (by have := (HO5.out.lt r hr).1; omega)⟩
              case measure => simp [intOf]; omega
            · have hj' : j = n := by omega
              subst hj'
              obtain ⟨lf, cf, rfl, hof⟩ := OwnRecs.of_row HO.out
              have HPF := Lib.hid hof.recs
              have hlf := hof.1
              have HI := HI.out
              rw [← hll] at HI
              have HI := Lib.hid HI
              obtain ⟨w4, rfl⟩ : ∃ w4 : World, w4 = wr := ⟨wr, rfl⟩
              clear hof
              go_wp2_with fail
              go_loopw [8] (fun v8 wr => ∃ q : Nat, v8 = .int .i64 q ∧ q ≤ kj ∧ w4 = wr ∧ Hid (∀ p, p < q → -1000000000000 ≤ pa Lj p ∧ pa Lj p ≤ 1000000000000)) (fun v8 _ => kj - (intOf v8).toNat)
              case atStart => exact ⟨0, rfl, Nat.zero_le _, rfl, fun p hp => by omega⟩
              case round =>
                obtain ⟨q, rfl, hq, rfl, HNF⟩ := hrel
                by_cases hlt3 : q < kj
                · obtain ⟨b, o, e, p0, p1, p2⟩ := Posts.at HPF.out q hlt3
                  subst e
                  have HR2 : Hid (1000000000000 < pa Lj q ∨ pa Lj q < -1000000000000 → bookE Bs (id, l) = 2) := fun h => by
                    rw [bookE_4 HF1.out HF2.out HF3.out]
                    exact range_any HI.out HC3.out.ok.near (by omega) h
                  have HNX : Hid (¬ (1000000000000 < pa Lj q) → ¬ (pa Lj q < -1000000000000) → ∀ p, p < q + 1 → -1000000000000 ≤ pa Lj p ∧ pa Lj p ≤ 1000000000000) := fun h1 h2 p hp => by
                    by_cases e : p = q
                    · rw [e]; omega
                    · exact HNF.out p (by omega)
                  generalize pa Lj q = z at *
                  by_cases hf1 : 1000000000000 < z
                  · have HE := Lib.hid (HR2.out (Or.inl hf1))
                    clear HR2 HNX
                    go_wp2_with fail
                    go_ret
                    exact RBookPost.no HL.out (HB3.out.trans (HBW.out.mono HB3.out.size)) HE.out (by decide)
                  · by_cases hf2 : z < -1000000000000
                    · have HE := Lib.hid (HR2.out (Or.inr hf2))
                      clear HR2 HNX
                      go_wp2_with fail
                      go_ret
                      exact RBookPost.no HL.out (HB3.out.trans (HBW.out.mono HB3.out.size)) HE.out (by decide)
                    · have HN2 := Lib.hid (HNX.out hf1 hf2)
                      clear HR2 HNX
                      go_wp2_with fail
                      go_roundw
                      case rel => exact ⟨q + 1, by go_num, by omega, trivial, HN2⟩
                      case measure => simp [intOf]; omega
                · have hq' : q = kj := by omega
                  subst hq'
                  have HE0 : Hid (bookE Bs (id, l) = 0) := by
                    show _ = _
                    rw [bookE_4 HF1.out HF2.out HF3.out]
                    exact range_none HI.out (fun p hp => HNF.out p (by omega))
                  clear HNF HF1 HF2 HF3
                  have C4 := HC3.out.below HBW.out
                  have g1' : w4.cell? ⟨g, 1, none⟩ = some vb := by rw [cell_of_row _ _ _ _ _ _ C4.box]; rfl
                  have gf : w4.frozen? ⟨g, 1, none⟩ = false := by simp only [World.frozen?, C4.box]; simp
                  have HC4 := Lib.hid C4
                  have HX4 := Lib.hid (HX3.out.step HBW.out)
                  have HB4 : Hid (Below w.heap.size w w4) := HB3.out.trans (HBW.out.mono HB3.out.size)
                  have hgw : g < w.heap.size := HL.out.lt g HC4.out.mg
                  clear C4 HC3 HX3 HB3 HBW HRR3 y0 y1
                  go_upto_region 21 with fail
                  have hg5 : (w4.setCell ⟨g, 1, none⟩ (.slice lf q cf)).heap[g]? = some (.cells #[.slice lv i cv, .slice lf q cf] 57 (0, 0)) := by
                    simp [World.setCell, Array.getElem?_modify, HC4.out.box]
                  have hfar : ∀ k, k ≠ g → (w4.setCell ⟨g, 1, none⟩ (.slice lf q cf)).heap[k]? = w4.heap[k]? := fun k hk => Below.heap_setCell _ _ _ _ hk
                  have hs5 : (w4.setCell ⟨g, 1, none⟩ (.slice lf q cf)).heap.size = w4.heap.size := by simp [World.setCell]
                  have HU5 : Hid (Upd T w (w4.setCell ⟨g, 1, none⟩ (.slice lf q cf))) := (Upd.of_below (S := T) HB4.out).trans (Upd.of_grown (S := T) (grown_setCell w4 g 1 _) (Or.inl HC4.out.mg)) (fun i hi => Or.inl hi)
                  generalize w4.setCell ⟨g, 1, none⟩ (.slice lf q cf) = w5 at *
                  have hwn : w.heap.size ≠ g := by omega
                  have hxl := lt_of_block HX4.out
                  have hx5 : Boxed2 w5 w.heap.size (.int .i64 id) (.slice ra j c) 34 := (hfar _ hwn).trans HX4.out
                  have HROW5 : Hid (w5.ownsRow 0 34 2 (.slice lv i cv) i (flat RawE rs)) := row_of_heap HC4.out.rows (fun r hr => hfar r (HC4.out.ma r hr).2)
                  have HSUM5 : Hid (w5.ownsRow 0 44 3 (.slice lf q cf) q (flat PostE Lj)) := row_of_heap HO.out (fun r hr => hfar r (by rcases HBK.out r hr with h | h <;> omega))
                  have HREC5 : Hid (Recs RawE w5 lv i rs) := by
                    obtain ⟨la', c', e, ho⟩ := OwnRecs.of_row HROW5.out
                    cases e
                    exact ho.recs
                  have hrl : rs.length = i := HREC5.out.1
                  have HRL := Lib.hid hrl
                  have y0 := hx5.c0
                  have y1 := hx5.c1
                  have HG5 := Lib.hid hg5
                  have HKEEP : Hid (∀ w', Below w5.heap.size w5 w' → (w'.cell? ⟨w.heap.size, 0, none⟩ = some (.int .i64 id) ∧ w'.cell? ⟨w.heap.size, 1, none⟩ = some (.slice ra j c)) ∧ w'.cell? ⟨g, 0, none⟩ = some (.slice lv i cv) ∧ w'.heap[g]? = some (.cells #[.slice lv i cv, .slice lf q cf] 57 (0, 0))) := fun w' hx => by
                    have h1 : w'.heap[g]? = some (.cells #[.slice lv i cv, .slice lf q cf] 57 (0, 0)) := (hx.block g (by omega)).trans HG5.out
                    exact ⟨⟨Below.cell_of hx hx5.c0, Below.cell_of hx hx5.c1⟩, by rw [cell_of_row _ _ _ _ _ _ h1]; rfl, h1⟩
                  have hs5w : w.heap.size + 1 ≤ w5.heap.size := by omega
                  clear hg5 hfar hrl hx5 g1' gf
                  refine wp_region_held_drew (S := fun w' => w'.cell? ⟨w.heap.size, 0, none⟩ = some (.int .i64 id) ∧ w'.cell? ⟨w.heap.size, 1, none⟩ = some (.slice ra j c)) (by kernel_rfl) ⟨y0, y1⟩ (fun hHeld => ?_)
                  refine take_at (i := 0) (v := ?_) 82 rfl rfl (by kernel_rfl) (by kernel_rfl) (by kernel_rfl) (fun _ _ _ h => h) (Or.inl ⟨by rfl, ?_⟩) (by assumption) ?_
                  rotate_left
                  · intro w hSw; go_simp <;> with_reducible rfl
                  try simp only [Act.put, List.setIfInBounds_toArray, List.set_cons_zero, List.set_cons_succ]
                  refine take_at (i := 2) (v := ?_) 84 rfl rfl (by kernel_rfl) (by kernel_rfl) (by kernel_rfl) (fun _ _ _ h => h) (Or.inl ⟨by rfl, ?_⟩) (by assumption) ?_
                  rotate_left
                  · intro w hSw; go_simp <;> with_reducible rfl
                  try simp only [Act.put, List.setIfInBounds_toArray, List.set_cons_zero, List.set_cons_succ]
                  refine take_at (i := 3) (v := ?_) 85 rfl rfl (by kernel_rfl) (by kernel_rfl) (by kernel_rfl) (fun _ _ _ h => h) (Or.inl ⟨by rfl, ?_⟩) (by assumption) ?_
                  rotate_left
                  · intro w hSw; go_simp <;> with_reducible rfl
                  try simp only [Act.put, List.setIfInBounds_toArray, List.set_cons_zero, List.set_cons_succ]
                  refine take_at (i := 4) (v := ?_) 86 rfl rfl (by kernel_rfl) (by kernel_rfl) (by kernel_rfl) (fun _ _ _ h => h) (Or.inl ⟨by rfl, ?_⟩) (by assumption) ?_
                  rotate_left
                  · intro w hSw; go_simp <;> with_reducible rfl
                  try simp only [Act.put, List.setIfInBounds_toArray, List.set_cons_zero, List.set_cons_succ]
                  refine take_at (i := 7) (v := ?_) 89 rfl rfl (by kernel_rfl) (by kernel_rfl) (by kernel_rfl) (fun _ _ _ h => h) (Or.inl ⟨by rfl, ?_⟩) (by assumption) ?_
                  rotate_left
                  · intro w hSw; go_simp <;> with_reducible rfl
                  try simp only [Act.put, List.setIfInBounds_toArray, List.set_cons_zero, List.set_cons_succ]
                  clear y0 y1
                  refine wpAnyH_effects0 [(1, 83), (5, 87), (6, 88), (8, 90)] [[], [], [0, 1], []] (FD w5.heap.size rs (.slice lv i cv) id ra j c) (bkD rs) _ _ 4 _ ?dist ?ready FD.below hHeld ?step ?fin
                  case dist => decide
                  case ready => kernel_rfl
                  case step =>
                    intro k' e v w3 hk3 he hSw hbw3 hneed
                    have hb3 : Below w5.heap.size w5 w3 := (Below.refl _ _).drew.trans hbw3
                    have hs3 := hb3.size
                    have HK3 := Lib.hid (fun w' (hb : Below w3.heap.size w3 w') => (HKEEP.out w' (hb3.trans (hb.mono hs3))).1)
                    rcases k' with _ | _ | _ | _ | k'
                    all_goals simp only [List.getElem?_cons_zero, List.getElem?_cons_succ, List.getElem?_nil, Option.some.injEq, reduceCtorEq] at he
                    all_goals subst he
                    · refine wpOp_step rfl (fun K' hK => ?_)
                      simp only [putAll, Act.put, List.setIfInBounds_toArray, List.set_cons_zero, List.set_cons_succ]
                      go_simp
                      have hb : Below w3.heap.size w3 (w3.alloc (.cells #[] 34)) := Joins.below_alloc1 w3 _
                      have how := World.ownsRow_made (e := 34) (size := 2) w3 #[] 0 (Nat.le_refl _) (by unfold maxLen; omega) rfl
                      refine hK _ _ ⟨.slice (some ⟨w3.heap.size, 0, none⟩) 0 0, by simp only [putAll, Act.put, List.setIfInBounds_toArray, List.set_cons_zero, List.set_cons_succ], HK3.out _ hb, hb, ⟨row_base hs3 how, _, rfl⟩, fun b hbk => by simp [bkD] at hbk⟩
                    · have hg0 := (HKEEP.out w3 hb3).2.1
                      refine wpOp_step rfl (fun K' hK => ?_)
                      simp only [putAll, Act.put, List.setIfInBounds_toArray, List.set_cons_zero, List.set_cons_succ]
                      go_simp
                      exact hK _ _ ⟨.slice lv i cv, by simp only [putAll, Act.put, List.setIfInBounds_toArray, List.set_cons_zero, List.set_cons_succ], hSw, Below.refl _ _, rfl, fun b hbk => by simp [bkD] at hbk⟩
                    · obtain ⟨how, b1, hv1⟩ : FD w5.heap.size rs (.slice lv i cv) id ra j c 0 (v 0) w3 := hneed 0 (by simp)
                      have hv2 : v 1 = .slice lv i cv := hneed 1 (by simp)
                      rw [hv1] at how
                      obtain ⟨u, w', hr, hb, ho, hf1, hf2⟩ := copy_books w3 w5.heap.size b1 lv i cv rs hs3 (by omega) (HREC5.out.below hb3) how
                      refine wpOp_step rfl (fun K' hK => ?_)
                      refine step_append_w (by simp only [putAll, Act.put, List.setIfInBounds_toArray, List.set_cons_zero, List.set_cons_succ]; rfl) (.tmp 83) (.tmp 87) 22 rfl 22 rfl hr ?_ ?_ ?_
                      · simp only [putAll, Act.put, List.setIfInBounds_toArray, List.set_cons_zero, List.set_cons_succ]
                        exact hv1
                      · simp only [putAll, Act.put, List.setIfInBounds_toArray, List.set_cons_zero, List.set_cons_succ]
                        exact hv2
                      · refine hK _ _ ⟨u, rfl, HK3.out _ hb, hb, ⟨by rw [HRL.out]; exact ho, fun h => ⟨b1, hf2 (by have := HRL.out; omega)⟩⟩, fun b hbk => ?_⟩
                        have hbk : (if rs.length = 0 then none else u.ownBlock) = some b := hbk
                        by_cases h0 : rs.length = 0
                        · simp [h0] at hbk
                        · simp only [h0, if_false] at hbk
                          exact ⟨hf1 (by have := HRL.out; omega) b hbk, row_lt ho hbk⟩
                    · refine wpOp_step rfl (fun K' hK => ?_)
                      simp only [putAll, Act.put, List.setIfInBounds_toArray, List.set_cons_zero, List.set_cons_succ]
                      go_simp
                      have hb : Below w3.heap.size w3 (w3.alloc (.cells #[.int .i64 id, .slice ra j c] 34)) := Joins.below_alloc1 w3 _
                      refine hK _ _ ⟨.slice (some ⟨w3.heap.size, 0, none⟩) 1 1, by simp only [putAll, Act.put, List.setIfInBounds_toArray, List.set_cons_zero, List.set_cons_succ], HK3.out _ hb, hb, ⟨_, rfl, World.alloc_heap_new w3 _⟩, fun b hbk => by simp [bkD] at hbk⟩
                  case fin =>
                    intro v w6 hS6 hI
                    have F2 : FA w5.heap.size rs [] id ra j c 2 (v 2) w6 := hI.fact 2 (by decide) rfl
                    obtain ⟨b3, f3, F3⟩ : FD w5.heap.size rs (.slice lv i cv) id ra j c 3 (v 3) w6 := hI.fact 3 (by decide) rfl
                    have hB2 : ∀ r, bkA rs 2 (v 2) = some r → w5.heap.size ≤ r := fun r h => (hI.blk 2 r (by decide) rfl h).1
                    have hb6 : Below w5.heap.size w5 w6 := (Below.refl _ _).drew.trans hI.below
                    obtain ⟨u, w7, hr, ho7, hg7⟩ := append_last hb6.size (by have := HRL.out; omega) F2 b3 F3
                    rw [HRL.out] at ho7
                    obtain ⟨lu, cu, rfl, _⟩ := OwnRecs.of_row ho7
                    have hb7 : Below w5.heap.size w5 w7 := hb6.grown hg7 hb6.size hB2
                    have HB7 := Lib.hid hb7
                    have HO7 := Lib.hid ho7
                    have hg7b := (HKEEP.out w7 hb7).2.2
                    have k0 : w7.cell? ⟨g, 0, none⟩ = some (.slice lv i cv) := (HKEEP.out w7 hb7).2.1
                    have kf : w7.frozen? ⟨g, 0, none⟩ = false := by simp only [World.frozen?, hg7b]; simp
                    have HG7 := Lib.hid hg7b
                    have HS8 : Hid (∀ u, (fun w' : World => w'.cell? ⟨w.heap.size, 0, none⟩ = some (.int .i64 id) ∧ w'.cell? ⟨w.heap.size, 1, none⟩ = some (.slice ra j c)) (w7.setCell ⟨g, 0, none⟩ u)) := fun u => ⟨(World.cell?_setCell_far w7 ⟨g, 0, none⟩ ⟨w.heap.size, 0, none⟩ u (by show g ≠ w.heap.size; omega)).trans (HKEEP.out w7 hb7).1.1, (World.cell?_setCell_far w7 ⟨g, 0, none⟩ ⟨w.heap.size, 1, none⟩ u (by show g ≠ w.heap.size; omega)).trans (HKEEP.out w7 hb7).1.2⟩
                    have HS7 := Lib.hid (HKEEP.out w7 hb7).1
                    simp only [putAll, Act.put, List.setIfInBounds_toArray, List.set_cons_zero, List.set_cons_succ]
                    rw [f3]
                    clear F2 F3 hI hB2 ho7 hg7 HKEEP hb7 hg7b hb6
                    refine wpAnyH_ready (rs := [9]) (by kernel_rfl) (by simp) ?_
                    refine AllReadyH.cons rfl (fun K' hK => ?_) AllReadyH.nil
                    refine step_append_w (by rfl) (.tmp 88) (.tmp 90) 22 rfl 22 rfl hr rfl rfl ?_
                    refine hK.out _ _ HS7.out (fun hHeld => ?_)
                    clear hK K' hr f3 HS7
                    try simp only [Act.put, List.setIfInBounds_toArray, List.set_cons_zero, List.set_cons_succ]
                    refine take_at (i := 10) (v := ?_) 92 rfl rfl (by kernel_rfl) (by kernel_rfl) (by kernel_rfl) (fun _ _ _ h => h) (Or.inl ⟨by rfl, ?_⟩) (by assumption) ?_
                    rotate_left
                    · intro w hSw; go_simp <;> with_reducible rfl
                    try simp only [Act.put, List.setIfInBounds_toArray, List.set_cons_zero, List.set_cons_succ]
                    refine take_at (i := 11) (v := ?_) 93 rfl rfl (by kernel_rfl) (by kernel_rfl) (by kernel_rfl) (fun _ _ _ h => h) (Or.inl ⟨by rfl, ?_⟩) (by assumption) ?_
                    rotate_left
                    · intro w hSw; go_simp <;> with_reducible rfl
                    try simp only [Act.put, List.setIfInBounds_toArray, List.set_cons_zero, List.set_cons_succ]
                    refine wpAnyH_ready (rs := [12]) (by kernel_rfl) (by simp) ?_
                    refine AllReadyH.cons rfl (fun K' hK => ?_) AllReadyH.nil
                    go_simp
                    refine hK.out _ _ (HS8.out _) (fun hHeld => ?_)
                    clear hK K' HS8
                    try simp only [Act.put, List.setIfInBounds_toArray, List.set_cons_zero, List.set_cons_succ]
                    refine wpAnyH_done (by kernel_rfl) ?_ _
                    clear hHeld hS6 k0 kf
                    go_wp2_with fail
                    go_ret
                    have hs7 := HB7.out.size
                    have hlu : ∀ r, (Value.slice lu (i + 1) cu).ownBlock = some r → w5.heap.size ≤ r ∧ r < w7.heap.size := fun r hr => HO7.out.lt r hr
                    have hfar9 : ∀ k, k ≠ g → (w7.setCell ⟨g, 0, none⟩ (.slice lu (i + 1) cu)).heap[k]? = w7.heap[k]? := fun k hk => Below.heap_setCell _ _ _ _ hk
                    have hs9 : (w7.setCell ⟨g, 0, none⟩ (.slice lu (i + 1) cu)).heap.size = w7.heap.size := by simp [World.setCell]
                    have hmb : ∀ r, (Value.slice lf q cf).ownBlock = some r → r ≠ g ∧ (T r ∨ w.heap.size + 1 ≤ r) ∧ r < w5.heap.size := fun r hr => by
                      have h1 := row_lt HSUM5.out hr
                      rcases HBK.out r hr with h | h
                      · exact ⟨h.2, Or.inl h.1, h1⟩
                      · exact ⟨by omega, Or.inr h, h1⟩
                    refine ⟨by rw [HE0.out]; rfl, (HU5.out.trans (Upd.of_below (S := T) HB7.out) (fun i hi => Or.inl hi)).trans (Upd.of_grown (S := T) (grown_setCell w7 g 0 _) (Or.inl HC4.out.mg)) (fun i hi => Or.inl hi), fun k => T k ∨ (w.heap.size ≤ k ∧ k < w7.heap.size), rs ++ [(id, (ra, j, c))], ?_, fun k hk => hk.imp (fun h => h) (fun h => h.1), fun _ => rfl, fun h => absurd HE0.out h⟩
                    have hbs2 : bookS Bs (id, l) = Bs ++ [(id, l)] := by unfold bookS; rw [if_pos HE0.out]
                    rw [hbs2]
                    refine ⟨Lj, .slice lu (i + 1) cu, .slice lf q cf, i + 1, q, ?_, Or.inl HC4.out.mg, fun r hr => ?_, fun r hr => ?_, fun k hk => ?_, ?_, ?_, ?_, by simp [HC4.out.len], fun k h1 h2 => ?_, ?_, HC4.out.ok.next hbs HE0.out⟩
                    · simp [World.setCell, Array.getElem?_modify, HG7.out]
                    · have := hlu r hr
                      exact ⟨Or.inr ⟨by omega, this.2⟩, by omega⟩
                    · have h3 := hmb r hr
                      exact ⟨h3.2.1.imp (fun h => h) (fun h => ⟨by omega, by omega⟩), h3.1⟩
                    · rw [hs9]
                      rcases hk with h | h
                      · have := HL.out.lt k h; omega
                      · exact h.2
                    · exact row_base (Nat.zero_le _) (row_of_heap HO7.out (fun r hr => hfar9 r (by have := hlu r hr; omega)))
                    · exact row_of_heap HSUM5.out (fun r hr => (hfar9 r (hmb r hr).1).trans (HB7.out.block r (hmb r hr).2.2))
                    · rw [balS_snoc]; exact HI.out
                    · have hl := HC4.out.len
                      by_cases hk : k < rs.length
                      · rw [List.getElem_append_left hk, List.getElem_append_left (by omega)]
                        exact HC4.out.ids k hk (by omega)
                      · have : k = rs.length := by simp at h1; omega
                        subst this
                        rw [List.getElem_append_right (Nat.le_refl _), List.getElem_append_right (by omega)]
                        simp [hl]
                    · have h4 := HC4.out.few
                      rw [List.length_append, List.length_singleton]
                      omega
    · have HE : Hid (bookE Bs (id, l) = 19) := by
        have h2 : zeroE l = 19 := by
          unfold zeroE isE
          rw [← htt, if_pos (by simp [hz])]
        show _ = _
        rw [bookE_2 HF1.out (by show zeroE l ≠ 0; omega)]
        exact h2
      have hz0 : (tt == 0) = false := by simp [hz]
      clear htt hz
      go_wp2_with fail
      go_ret
      exact RBookPost.no HL.out HB2.out HE.out (by decide)
end Go.Proofs.Ytafhdpalobalkaa
