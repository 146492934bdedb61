/- foyerref27.Add: the walk. -/
import Derived.Laws.StructEq
import Derived.RegionTactic
import Derived.BigRegion
import Derived.Maps.AppendAt
import Derived.Test.YtafhdpalobalkaaLE9
namespace Go.Proofs.Ytafhdpalobalkaa
open Go.RowKit Go.IntWalk Go.Maps Go.ChangeMaps

theorem add_split {L : List PostT} {p : PostT} : ∀ (i : Nat), i ≤ L.length → (∀ j, j < i → befA (pk L j, pn L j) p.1 = true) → addS L p = L.take i ++ addS (L.drop i) p := by
  intro i
  induction i generalizing L with
  | zero => intro _ _; simp
  | succ i ih =>
    intro h1 h2
    cases L with
    | nil => simp at h1
    | cons x L =>
      have h0 : befA x.1 p.1 = true := h2 0 (by omega)
      have h3 : addS (x :: L) p = x :: addS L p := by rw [addS, if_pos h0]
      rw [h3, List.take_succ_cons, List.drop_succ_cons, List.cons_append, ← ih (by simpa using h1) (fun j hj => h2 (j + 1) (by omega))]

theorem add_stop {L : List PostT} {p : PostT} {i : Nat} (hi : i ≤ L.length) (hs : i < L.length → befA (pk L i, pn L i) p.1 = false) (hne : i < L.length → (pk L i, pn L i) ≠ p.1) :
    addS (L.drop i) p = (if p.2 = 0 then [] else [p]) ++ L.drop i := by
  by_cases h : i < L.length
  · rw [List.drop_eq_getElem_cons h, post_eq L i h, addS, if_neg (by rw [hs h]; simp), if_neg (hne h)]
    split <;> rfl
  · rw [List.drop_eq_nil_of_le (by omega), addS]
    split <;> rfl

theorem add_same {L : List PostT} {p : PostT} {i : Nat} (h : i < L.length) (he : (pk L i, pn L i) = p.1) :
    addS (L.drop i) p = (if p.2 + pa L i = 0 then [] else [(p.1, p.2 + pa L i)]) ++ L.drop (i + 1) := by
  rw [List.drop_eq_getElem_cons h, post_eq L i h, addS, if_neg (by rw [he, befA_irrefl]; simp), if_pos he]
  split <;> rfl

/-- A slice of the call's own, by its parts. -/
theorem row_slice {w : World} {B n : Nat} {v : Value} {L : List PostT} (h : w.ownsRow B 44 3 v n (flat PostE L)) : ∃ la c, v = .slice la n c ∧ L.length = n ∧ n ≤ c ∧ c ≤ maxLen ∧ ((la = none ∧ n = 0 ∧ c = 0) ∨ ∃ g, la = some ⟨g, 0, none⟩ ∧ B ≤ g) := by
  have hl : L.length = n := by
    have := h.1
    rw [flat_len] at this
    omega
  rcases h.2 with ⟨rfl, h0⟩ | ⟨g, cap, cur, rfl, hb, _, h1, h2, _⟩
  · subst h0
    exact ⟨none, 0, rfl, hl, Nat.le_refl _, by unfold maxLen; omega, Or.inl ⟨rfl, rfl, rfl⟩⟩
  · exact ⟨_, cap, rfl, hl, h1, h2, Or.inr ⟨g, rfl, hb⟩⟩

theorem row_posts {w : World} {B n : Nat} {v : Value} {L : List PostT} {la : Option Addr} {c : Nat} (h : w.ownsRow B 44 3 v n (flat PostE L)) (hv : v = .slice la n c) : Posts w la n L := by
  obtain ⟨la', c', e, ho⟩ := OwnRecs.of_row h
  rw [hv] at e
  cases e
  exact ho.recs

theorem row_cap {w : World} {B n k : Nat} {T : TypeId} {la : Option Addr} {c m : Nat} {xs : List Value} (h : w.ownsRow B T k (.slice la m c) n xs) : m ≤ c ∧ m = n := by
  rcases h.2 with ⟨e, h0⟩ | ⟨g, cap, cur, e, _, _, h1, _⟩
  · cases e; omega
  · cases e; omega

theorem recs_drop {α : Type} {k : Nat} {E : Enc α k} {w : World} {g n i : Nat} {L : List α} (h : Recs E w (some ⟨g, 0, none⟩) n L) (hi : i ≤ n) : Recs E w (some ⟨g, i * k, none⟩) (n - i) (L.drop i) := by
  refine ⟨by rw [List.length_drop, h.1], fun j hj => ⟨g, i * k, rfl, fun q hq => ?_⟩⟩
  obtain ⟨b, o, e, c⟩ := h.2 (i + j) (by omega)
  cases e
  have := c q hq
  rw [rc_eq _ _ (by rw [List.length_drop, h.1]; exact hj), List.getElem_drop]
  rw [rc_eq _ _ (by rw [h.1]; omega)] at this
  rw [← this]
  congr 2
  rw [Nat.add_mul]
  omega

theorem append_rest_none (w : World) (lo : Option Addr) (k c : Nat) (hk : k ≤ c ∧ k = k) : (Builtin.append_ #[32, 32] 32 #[.slice lo k c, .slice none 0 0]).run Try.prog w = .ok (.slice lo k c) w := by
  obtain ⟨i0, hi, hz0, hz1, hz2⟩ := info_parts info_post
  cases lo with
  | none => simp [Builtin.append_, run_underlying Try.underlying32, sizeOf, typeInfo, hi, Builtin.lenOf, Builtin.firstCells, loadCells, loadCellsFrom, storeCells, hk.1]
  | some ad => simp [Builtin.append_, run_underlying Try.underlying32, sizeOf, typeInfo, hi, Builtin.lenOf, Builtin.firstCells, loadCells, loadCellsFrom, storeCells, hk.1]

/-- append(out, l[i:]...) -/
theorem append_rest (w : World) (B k n c i g : Nat) (lo : Option Addr) (co : Nat) (X L : List PostT) (ho : w.ownsRow B 44 3 (.slice lo k co) k (flat PostE X)) (hP : Posts w (some ⟨g, 0, none⟩) n L) (hnc : n ≤ c) (hi : i ≤ n) (hk : k + n ≤ 300000) (hB : B ≤ w.heap.size) :
    ∃ v' w', (Builtin.append_ #[32, 32] 32 #[.slice lo k co, .slice (if c = i then some ⟨g, 0, none⟩ else some ⟨g, i * 3, none⟩) (n - i) (c - i)]).run Try.prog w = .ok v' w' ∧ w'.ownsRow B 44 3 v' (k + (n - i)) (flat PostE (X ++ L.drop i)) ∧ w.grownBy w' (Value.slice lo k co).ownBlock := by
  obtain ⟨i0, hj, hz0, hz1, hz2⟩ := info_parts info_post
  have hl : (flat PostE (L.drop i)).length = (n - i) * 3 := by rw [flat_len, List.length_drop, hP.1]
  have key : ∀ a : Addr, (∀ j u, (flat PostE (L.drop i))[j]? = some u → w.cell? (a.add j) = some u) → ∃ v' w', (Builtin.append_ #[32, 32] 32 #[.slice lo k co, .slice (some a) (n - i) (c - i)]).run Try.prog w = .ok v' w' ∧ w'.ownsRow B 44 3 v' (k + (n - i)) (flat PostE (X ++ L.drop i)) ∧ w.grownBy w' (Value.slice lo k co).ownBlock := fun a hnews => by
    obtain ⟨v', w', hr, h2, h3, _⟩ := run_append_own_at (P := Try.prog) w B 32 32 44 i0 _ 3 32 Try.underlying32 hj hz0 hz1 hz2 rfl (by decide) (.slice lo k co) k (flat PostE X) ho a (n - i) (c - i) (flat PostE (L.drop i))
      hl hnews flat_one (by unfold maxLen; omega) (by omega) hB
    exact ⟨v', w', hr, by rw [flat_append]; exact h2, h3⟩
  by_cases hc : c = i
  · rw [if_pos hc]
    refine key _ (fun j u hj => ?_)
    have : L.drop i = [] := List.drop_eq_nil_of_le (by have := hP.1; omega)
    rw [this] at hj
    simp [flat] at hj
  · rw [if_neg hc]
    exact key _ (flat_cells (recs_drop hP hi))

theorem wpList_run_append {P : Program} {ops : Array Oper} {rest : List Oper} {o : Oper} {a : Act} {Q : Exit → Act → World → Prop} (hgd : o.guard = none) (s x : Operand) (t : TypeId)
    (ho : o.op = .call { callee := .builtin .append, args := #[s, x], argTypes := #[t, t] }) {v u res : Value} {w w' : World} (ty : TypeId) (hty : o.type = ty)
    (hr : (Builtin.append_ #[t, t] ty #[v, u]).run P w = .ok res w') (hs : a.eval s = v) (hx : a.eval x = u) (h : wpList P ops Q rest (a.put o.dst res) w') : wpList P ops Q (o :: rest) a w :=
  wpList_plain hgd fun _ hK => by
    unfold Oper.wp execOp
    simp only [ho, hty, resolve, invoke, builtin, Sem.run_bind, Sem.run_pure, Result.andThen_ok, List.map_toArray, List.map_cons, List.map_nil, hs, hx, hr]
    exact hK _ _ h

set_option maxRecDepth 10000 in
set_option maxHeartbeats 3200000 in
theorem add_any (v : Value) (B n : Nat) (L : List PostT) (kp : Int) (tp : Name) (ap : Int) (w : World) (hv : w.ownsRow B 44 3 v n (flat PostE L)) (hn : n ≤ 100000) (ha : -1000000000 ≤ ap ∧ ap ≤ 1000000000) (hL : ∀ i, i < n → -2000000000000 ≤ pa L i ∧ pa L i ≤ 2000000000000) :
    Calls Try.prog 36 #[v, .agg #[.int .i64 kp, .string (bs tp), .int .i64 ap]] w fun e w' => ∃ v' k, e = .returned v' ∧ Below w.heap.size w w' ∧ w'.ownsRow w.heap.size 44 3 v' k (flat PostE (addS L ((kp, tp), ap))) := by
  obtain ⟨la, c, rfl, hll, hnc, hcm, hla⟩ := row_slice hv
  obtain ⟨i1, hj, hj0, hj1, hj2⟩ := info_parts info_post
  have HV := Lib.hid hv
  have HP := Lib.hid (row_posts hv rfl)
  have HLB := Lib.hid hL
  have hal := Joins.below_alloc1 w (.cells #[.int .i64 kp, .string (bs tp), .int .i64 ap] 44)
  have hnew := World.alloc_heap_new w (.cells #[.int .i64 kp, .string (bs tp), .int .i64 ap] 44)
  have hsz : (w.alloc (.cells #[.int .i64 kp, .string (bs tp), .int .i64 ap] 44)).heap.size = w.heap.size + 1 := by simp
  obtain ⟨w1, hw1⟩ : ∃ w1, w1 = w.alloc (.cells #[.int .i64 kp, .string (bs tp), .int .i64 ap] 44) := ⟨_, rfl⟩
  rw [← hw1] at hal hnew hsz
  have HA := Lib.hid hal
  have HX : Hid (Boxed3 w1 w.heap.size (.int .i64 kp) (.string (bs tp)) (.int .i64 ap) 44) := hnew
  have HSZ := Lib.hid hsz
  clear hv hL hal hnew hsz
  go_enter Try.func36, Try.ntmps36
  go_upto_region 1 with fail
  rw [← hw1]
  clear hw1
  go_wp2_with fail
  go_loopw [5, 6] (fun v5 v6 wr => ∃ i : Nat, v6 = .int .i64 i ∧ i ≤ n ∧ Hid (wr.ownsRow w1.heap.size 44 3 v5 i (flat PostE (L.take i))) ∧ Hid (Below w1.heap.size w1 wr) ∧ Hid (∀ j, j < i → befA (pk L j, pn L j) (kp, tp) = true)) (fun _ v6 _ => n - (intOf v6).toNat)
  case atStart => exact ⟨0, rfl, Nat.zero_le _, ⟨rfl, Or.inl ⟨rfl, rfl⟩⟩, Below.refl _ _, fun j hj => by omega⟩
  case round =>
    obtain ⟨i, rfl, hi, HO, HB, HBE⟩ := hrel
    have HPW : Hid (∀ wx, Below w1.heap.size w1 wx → Posts wx la n L) := fun wx hx => HP.out.below (HA.out.trans (hx.mono HA.out.size))
    obtain ⟨t, ht⟩ : ∃ t, t = (decide (i < n) && befA (pk L i, pn L i) (kp, tp)) := ⟨_, rfl⟩
    have HT := Lib.hid ht
    clear ht
    go_upto_region 3 with fail
    go_cut [20] (fun v20 wx => v20 = .bool t ∧ Hid (Below wr.heap.size wr wx))
    case first =>
      have hx := HX.out.step HB.out
      by_cases hlt : i < n
      · obtain ⟨b, o, rfl, p0, p1, p2⟩ := Posts.at (HPW.out wr HB.out) i hlt
        have y0 := After.cell p0
        have y1 := After.cell p1
        have z0 := After.cell hx.c0
        have z1 := After.cell hx.c1
        have HBF : Hid (∀ wx, Below wr.heap.size wr wx → Calls Try.prog 22 #[.agg #[.int .i64 (pk L i), .string (bs (pn L i))], .agg #[.int .i64 kp, .string (bs tp)]] wx fun e w' => e = .returned (.bool t) ∧ Below wr.heap.size wr w') := fun wx hx => by
          have := ZSt.before (wr := wr) (pk L i, pn L i) (kp, tp) wx hx
          rw [HT.out]
          simp only [hlt, decide_true, Bool.true_and]
          exact this
        clear hx p0 p1 p2
        refine wp_region_after (w0 := wr) (B := wr.heap.size) (by kernel_rfl) (by kernel_rfl) (Below.refl _ _) ?_
        repeat (go_big_quiet_step (exact Calls.after_of (HBF.out _ (After.below _))))
        refine wpQuiet_nil ?_
        rintro _ ⟨x, rfl⟩
        go_wp2_with fail
        go_meet
        case rel => exact ⟨rfl, x.below⟩
      · have HT0 : Hid (t = false) := HT.out.trans (by simp [hlt])
        clear hx
        refine wp_region_after (w0 := wr) (B := wr.heap.size) (by kernel_rfl) (by kernel_rfl) (Below.refl _ _) ?_
        repeat (go_big_quiet_step (fail))
        refine wpQuiet_nil ?_
        rintro _ ⟨x, rfl⟩
        go_wp2_with fail
        go_meet
        case rel => exact ⟨by rw [HT0.out], x.below⟩
    case rest =>
      obtain ⟨rfl, HBC⟩ := hcut
      have HB2 : Hid (Below w1.heap.size w1 wc) := HB.out.trans (HBC.out.mono HB.out.size)
      have HO2 : Hid (wc.ownsRow w1.heap.size 44 3 u5 i (flat PostE (L.take i))) := row_of_heap HO.out (fun r hr => HBC.out.block r (row_lt HO.out hr))
      clear HO HB HBC
      have hs1 := HB2.out.size
      cases t
      · have HSTOP : Hid (i < n → befA (pk L i, pn L i) (kp, tp) = false) := fun h => by
          have := HT.out
          simp only [h, decide_true, Bool.true_and] at this
          exact this.symm
        clear HT
        obtain ⟨q, hq⟩ : ∃ q, q = (decide (i < n) && (decide (pk L i = kp) && decide (pn L i = tp))) := ⟨_, rfl⟩
        have HQ := Lib.hid hq
        clear hq
        obtain ⟨wa, rfl⟩ : ∃ wa : World, wa = wc := ⟨wc, rfl⟩
        go_upto_region 6 with fail
        go_cut [43] (fun v43 wx => v43 = .bool q ∧ Hid (∃ m, wx = wa.drewN m))
        case first =>
          have hx := HX.out.step HB2.out
          have x0 := hx.c0
          have x1 := hx.c1
          clear hx
          by_cases hlt : i < n
          · obtain ⟨b, o, e, p0, p1, p2⟩ := Posts.at (HPW.out wa HB2.out) i hlt
            subst e
            by_cases h1 : pk L i = kp
            · by_cases h2 : (bs (pn L i)).toList = (bs tp).toList
              · have HQ1 : Hid (q = true) := by
                  rw [bs_toList, bs_toList] at h2
                  exact HQ.out.trans (by simp [hlt, h1, h2])
                clear HQ
                go_quiet (fail)
                go_wp2_with fail
                go_meet
                case rel => exact ⟨by rw [HQ1.out], _, rfl⟩
              · have HQ1 : Hid (q = false) := by
                  rw [bs_toList, bs_toList] at h2
                  exact HQ.out.trans (by simp [h2])
                clear HQ
                go_quiet (fail)
                go_wp2_with fail
                go_meet
                case rel => exact ⟨by rw [HQ1.out], _, rfl⟩
            · have HQ1 : Hid (q = false) := HQ.out.trans (by simp [h1])
              clear HQ
              go_quiet (fail)
              go_wp2_with fail
              go_meet
              case rel => exact ⟨by rw [HQ1.out], _, rfl⟩
          · have HQ1 : Hid (q = false) := HQ.out.trans (by simp [hlt])
            clear HQ
            go_quiet (fail)
            go_wp2_with fail
            go_meet
            case rel => exact ⟨by rw [HQ1.out], _, rfl⟩
        case rest =>
          obtain ⟨rfl, HM⟩ := hcut
          have HBz1 : Hid (Below w1.heap.size w1 wc) := HB2.out.trans ((below_q HM.out).mono HB2.out.size)
          have HXz1 := Lib.hid (HX.out.step HBz1.out)
          have HOz1 : Hid (wc.ownsRow w1.heap.size 44 3 u5 i (flat PostE (L.take i))) := by obtain ⟨m, hm⟩ := HM.out; rw [hm]; exact HO2.out
          have HSP := Lib.hid (add_split (L := L) (p := ((kp, tp), ap)) i (by omega) HBE.out)
          clear HM HO2 HB2 HBE
          cases q
          · have HRES : Hid (addS L ((kp, tp), ap) = L.take i ++ ((if ap = 0 then [] else [((kp, tp), ap)]) ++ L.drop i)) := by
              show _ = _
              rw [HSP.out, add_stop (p := ((kp, tp), ap)) (by omega) (fun h => HSTOP.out (by omega)) (fun h e => ?_)]
              have := HQ.out
              have h1 : pk L i = kp := congrArg Prod.fst e
              have h2 : pn L i = tp := congrArg Prod.snd e
              simp [h1, h2] at this
              omega
            clear HSP HQ HSTOP
            obtain ⟨wz, rfl⟩ : ∃ wz : World, wz = wc := ⟨wc, rfl⟩
            have HBz : Hid (Below w.heap.size w wz) := HA.out.trans (HBz1.out.mono HA.out.size)
            have HXz := HXz1
            have HOz := HOz1
            have hsz := HBz1.out.size
            rw [HSZ.out] at hsz
            have hs1' : w1.heap.size = w.heap.size + 1 := HSZ.out
            clear HXz1 HOz1 HBz1
            obtain ⟨lo, co, rfl, _⟩ := OwnRecs.of_row HOz.out
            have hco := (row_cap HOz.out)
            by_cases h0 : ap = 0
            · have HR0 : Hid (addS L ((kp, tp), ap) = L.take i ++ L.drop (i)) := by
                show _ = _
                rw [HRES.out, if_pos h0, List.nil_append]
              rw [h0] at HXz
              have H00 := Lib.hid h0
              clear h0 HRES
              have x2 := HXz.out.c2
              go_upto_region 11 with fail
              rcases hla with ⟨rfl, hn0, hc0⟩ | ⟨gb, rfl, hgb⟩
              · have hr := append_rest_none wz lo i co ⟨hco.1, rfl⟩
                have hdr : L.drop (i) = [] := List.drop_eq_nil_of_le (by omega)
                have HD := Lib.hid hdr
                subst hn0 hc0
                go_wp2_with (at_builtin; refine wpList_run_append rfl (.tmp 62) (.tmp 65) 32 rfl 32 rfl hr rfl rfl ?_)
                go_ret
                refine ⟨_, rfl, HBz.out, i, row_base (B' := w1.heap.size) (by omega) ?_⟩
                rw [HR0.out, HD.out, List.append_nil]
                exact HOz.out
              · obtain ⟨v', w', hr, ho, hg⟩ := append_rest wz w1.heap.size i n c (i) gb lo co _ L HOz.out (HP.out.below HBz.out) hnc (by omega) (by omega) (by omega)
                have HR := Lib.hid (And.intro ho hg)
                clear ho hg
                go_wp2_with (at_builtin; refine wpList_run_append rfl (.tmp 62) (.tmp 65) 32 rfl 32 rfl hr rfl rfl ?_)
                all_goals
                  go_ret
                  have hrow : ∀ r, (Value.slice lo i co).ownBlock = some r → w.heap.size ≤ r := fun r hr => by have := (HOz.out.lt r hr).1; omega
                  refine ⟨v', rfl, HBz.out.grown HR.out.2 (by omega) hrow, i + (n - (i)), row_base (B' := w1.heap.size) (by omega) ?_⟩
                  rw [HR0.out]
                  exact HR.out.1
            · have HR0 : Hid (addS L ((kp, tp), ap) = (L.take i ++ [((kp, tp), ap)]) ++ L.drop (i)) := by
                show _ = _
                rw [HRES.out, if_neg h0, List.append_assoc]
              have h0' : (ap == 0) = false := by simp [h0]
              clear HRES h0
              have x0 := HXz.out.c0
              have x1 := HXz.out.c1
              have x2 := HXz.out.c2
              go_upto_region 11 with (at_builtin; refine wpList_append_own _ rfl _ _ 32 rfl w1.heap.size 44 i1 _ 3 32 Try.underlying32 hj hj0 hj1 hj2 rfl (by decide) _ _ _ rfl (HOz.out.alloc _) ⟨wz.heap.size, 0, none⟩ 1 1 (PostE.cells ((kp, tp), ap)) rfl rfl (post_new wz ((kp, tp), ap)) (PostE.one _) (by unfold maxLen; omega) (by omega) (by simp; omega) ?_; intro v4 w4 hown' hgrow _; have HN := Lib.hid (And.intro hown' hgrow); clear hown' hgrow)
              have hrow4 : ∀ r, (Value.slice lo i co).ownBlock = some r → w.heap.size ≤ r := fun r hr => by have := (HOz.out.lt r hr).1; omega
              have HBz2 : Hid (Below w.heap.size w w4) := (HBz.out.alloc (by omega) _).grown HN.out.2 (by simp; omega) hrow4
              have HOz2 : Hid (w4.ownsRow w1.heap.size 44 3 v4 (i + 1) (flat PostE (L.take i ++ [((kp, tp), ap)]))) := by
                show w4.ownsRow _ _ _ _ _ _
                rw [flat_append, flat_single]
                exact HN.out.1
              have hs4 : w.heap.size + 1 ≤ w4.heap.size := by have := HN.out.2.size; simp at this; omega
              obtain ⟨lo, co, rfl, _⟩ := OwnRecs.of_row HOz2.out
              have hco := (row_cap HOz2.out)
              clear HN hrow4 x0 x1 x2 h0'
              rcases hla with ⟨rfl, hn0, hc0⟩ | ⟨gb, rfl, hgb⟩
              · have hr := append_rest_none w4 lo (i + 1) co ⟨hco.1, rfl⟩
                have hdr : L.drop (i) = [] := List.drop_eq_nil_of_le (by omega)
                have HD := Lib.hid hdr
                subst hn0 hc0
                go_wp2_with (at_builtin; refine wpList_run_append rfl (.tmp 62) (.tmp 65) 32 rfl 32 rfl hr rfl rfl ?_)
                go_ret
                refine ⟨_, rfl, HBz2.out, (i + 1), row_base (B' := w1.heap.size) (by omega) ?_⟩
                rw [HR0.out, HD.out, List.append_nil]
                exact HOz2.out
              · obtain ⟨v', w', hr, ho, hg⟩ := append_rest w4 w1.heap.size (i + 1) n c (i) gb lo co _ L HOz2.out (HP.out.below HBz2.out) hnc (by omega) (by omega) (by omega)
                have HR := Lib.hid (And.intro ho hg)
                clear ho hg
                go_wp2_with (at_builtin; refine wpList_run_append rfl (.tmp 62) (.tmp 65) 32 rfl 32 rfl hr rfl rfl ?_)
                all_goals
                  go_ret
                  have hrow : ∀ r, (Value.slice lo (i + 1) co).ownBlock = some r → w.heap.size ≤ r := fun r hr => by have := (HOz2.out.lt r hr).1; omega
                  refine ⟨v', rfl, HBz2.out.grown HR.out.2 (by omega) hrow, (i + 1) + (n - (i)), row_base (B' := w1.heap.size) (by omega) ?_⟩
                  rw [HR0.out]
                  exact HR.out.1
          · have hq2 : i < n ∧ (pk L i = kp ∧ pn L i = tp) := by
              have := HQ.out
              simp only [Bool.true_eq, Bool.and_eq_true, decide_eq_true_eq] at this
              exact this
            have hlt := hq2.1
            have HRES : Hid (addS L ((kp, tp), ap) = L.take i ++ ((if ap + pa L i = 0 then [] else [((kp, tp), ap + pa L i)]) ++ L.drop (i + 1))) := by
              show _ = _
              rw [HSP.out, add_same (p := ((kp, tp), ap)) (by omega) (Prod.ext hq2.2.1 hq2.2.2)]
            clear HSP HQ HSTOP hq2
            rcases hla with ⟨_, hn0, _⟩ | ⟨gb, rfl, hgb⟩
            · omega
            obtain ⟨b, o, e, p0, p1, p2⟩ := Posts.at (HPW.out wc HBz1.out) i hlt
            cases e
            rw [Nat.zero_add] at p0 p1 p2
            have hbd := HLB.out i hlt
            have x2 := HXz1.out.c2
            have hbx : wc.heap[w.heap.size]? = some (.cells #[.int .i64 kp, .string (bs tp), .int .i64 ap] 44 (0, 0)) := HXz1.out
            have xf : wc.frozen? ⟨w.heap.size, 2, none⟩ = false := by simp only [World.frozen?, hbx]; simp
            have HBX := Lib.hid hbx
            clear hbx p0 p1
            generalize pa L i = ax at *
            go_upto_region 7 with fail
            go_region
            have hbz : (wc.setCell ⟨w.heap.size, 2, none⟩ (.int .i64 (ap + ax))).drew.heap[w.heap.size]? = some (.cells #[.int .i64 kp, .string (bs tp), .int .i64 (ap + ax)] 44 (0, 0)) := by
              show (wc.setCell ⟨w.heap.size, 2, none⟩ (.int .i64 (ap + ax))).heap[w.heap.size]? = _
              simp [World.setCell, Array.getElem?_modify, HBX.out]
            have hfar : ∀ k, k ≠ w.heap.size → (wc.setCell ⟨w.heap.size, 2, none⟩ (.int .i64 (ap + ax))).drew.heap[k]? = wc.heap[k]? := fun k hk => Below.heap_setCell _ _ _ _ hk
            have HXz : Hid (Boxed3 (wc.setCell ⟨w.heap.size, 2, none⟩ (.int .i64 (ap + ax))).drew w.heap.size (.int .i64 kp) (.string (bs tp)) (.int .i64 (ap + ax)) 44) := hbz
            have HOz : Hid ((wc.setCell ⟨w.heap.size, 2, none⟩ (.int .i64 (ap + ax))).drew.ownsRow w1.heap.size 44 3 u5 i (flat PostE (L.take i))) := row_of_heap HOz1.out (fun r hr => hfar r (by have h3 := (HOz1.out.lt r hr).1; have h4 := HSZ.out; omega))
            have HBz : Hid (Below w.heap.size w (wc.setCell ⟨w.heap.size, 2, none⟩ (.int .i64 (ap + ax))).drew) := ((HA.out.trans (HBz1.out.mono HA.out.size)).setCell (Nat.le_refl _) _).drew
            have hsz : w.heap.size + 1 ≤ (wc.setCell ⟨w.heap.size, 2, none⟩ (.int .i64 (ap + ax))).drew.heap.size := by
              have h3 := HBz1.out.size
              have h4 := HSZ.out
              show _ ≤ (wc.setCell ⟨w.heap.size, 2, none⟩ (.int .i64 (ap + ax))).heap.size
              simp [World.setCell]
              omega
            clear hbz hfar HXz1 HOz1 HBz1 HBX x2 xf p2
            generalize (wc.setCell ⟨w.heap.size, 2, none⟩ (.int .i64 (ap + ax))).drew = wz at *
            have hs1' : w1.heap.size = w.heap.size + 1 := HSZ.out
            obtain ⟨lo, co, rfl, _⟩ := OwnRecs.of_row HOz.out
            have hco := (row_cap HOz.out)
            by_cases h0 : ap + ax = 0
            · have HR0 : Hid (addS L ((kp, tp), ap) = L.take i ++ L.drop (i + 1)) := by
                show _ = _
                rw [HRES.out, if_pos h0, List.nil_append]
              rw [h0] at HXz
              have H00 := Lib.hid h0
              clear h0 HRES
              have x2 := HXz.out.c2
              go_upto_region 11 with fail
              obtain ⟨v', w', hr, ho, hg⟩ := append_rest wz w1.heap.size i n c (i + 1) gb lo co _ L HOz.out (HP.out.below HBz.out) hnc (by omega) (by omega) (by omega)
              have HR := Lib.hid (And.intro ho hg)
              clear ho hg
              go_wp2_with (at_builtin; refine wpList_run_append rfl (.tmp 62) (.tmp 65) 32 rfl 32 rfl hr rfl rfl ?_)
              all_goals
                go_ret
                have hrow : ∀ r, (Value.slice lo i co).ownBlock = some r → w.heap.size ≤ r := fun r hr => by have := (HOz.out.lt r hr).1; omega
                refine ⟨v', rfl, HBz.out.grown HR.out.2 (by omega) hrow, i + (n - (i + 1)), row_base (B' := w1.heap.size) (by omega) ?_⟩
                rw [HR0.out]
                exact HR.out.1
            · have HR0 : Hid (addS L ((kp, tp), ap) = (L.take i ++ [((kp, tp), ap + ax)]) ++ L.drop (i + 1)) := by
                show _ = _
                rw [HRES.out, if_neg h0, List.append_assoc]
              have h0' : (ap + ax == 0) = false := by simp [h0]
              clear HRES h0
              have x0 := HXz.out.c0
              have x1 := HXz.out.c1
              have x2 := HXz.out.c2
              go_upto_region 11 with (at_builtin; refine wpList_append_own _ rfl _ _ 32 rfl w1.heap.size 44 i1 _ 3 32 Try.underlying32 hj hj0 hj1 hj2 rfl (by decide) _ _ _ rfl (HOz.out.alloc _) ⟨wz.heap.size, 0, none⟩ 1 1 (PostE.cells ((kp, tp), ap + ax)) rfl rfl (post_new wz ((kp, tp), ap + ax)) (PostE.one _) (by unfold maxLen; omega) (by omega) (by simp; omega) ?_; intro v4 w4 hown' hgrow _; have HN := Lib.hid (And.intro hown' hgrow); clear hown' hgrow)
              have hrow4 : ∀ r, (Value.slice lo i co).ownBlock = some r → w.heap.size ≤ r := fun r hr => by have := (HOz.out.lt r hr).1; omega
              have HBz2 : Hid (Below w.heap.size w w4) := (HBz.out.alloc (by omega) _).grown HN.out.2 (by simp; omega) hrow4
              have HOz2 : Hid (w4.ownsRow w1.heap.size 44 3 v4 (i + 1) (flat PostE (L.take i ++ [((kp, tp), ap + ax)]))) := by
                show w4.ownsRow _ _ _ _ _ _
                rw [flat_append, flat_single]
                exact HN.out.1
              have hs4 : w.heap.size + 1 ≤ w4.heap.size := by have := HN.out.2.size; simp at this; omega
              obtain ⟨lo, co, rfl, _⟩ := OwnRecs.of_row HOz2.out
              have hco := (row_cap HOz2.out)
              clear HN hrow4 x0 x1 x2 h0'
              obtain ⟨v', w', hr, ho, hg⟩ := append_rest w4 w1.heap.size (i + 1) n c (i + 1) gb lo co _ L HOz2.out (HP.out.below HBz2.out) hnc (by omega) (by omega) (by omega)
              have HR := Lib.hid (And.intro ho hg)
              clear ho hg
              go_wp2_with (at_builtin; refine wpList_run_append rfl (.tmp 62) (.tmp 65) 32 rfl 32 rfl hr rfl rfl ?_)
              all_goals
                go_ret
                have hrow : ∀ r, (Value.slice lo (i + 1) co).ownBlock = some r → w.heap.size ≤ r := fun r hr => by have := (HOz2.out.lt r hr).1; omega
                refine ⟨v', rfl, HBz2.out.grown HR.out.2 (by omega) hrow, (i + 1) + (n - (i + 1)), row_base (B' := w1.heap.size) (by omega) ?_⟩
                rw [HR0.out]
                exact HR.out.1
      · have h2 : i < n ∧ befA (pk L i, pn L i) (kp, tp) = true := by
          have := HT.out
          simp only [Bool.true_eq, Bool.and_eq_true, decide_eq_true_eq] at this
          exact this
        have hlt := h2.1
        have HBI := Lib.hid h2.2
        clear h2 HT
        have HTK : Hid (L.take (i + 1) = L.take i ++ [((pk L i, pn L i), pa L i)]) := by
          show _ = _
          rw [List.take_succ_eq_append_getElem (by omega), post_eq L i (by omega)]
        obtain ⟨b, o, e, p0, p1, p2⟩ := Posts.at (HPW.out wc HB2.out) i hlt
        subst e
        go_wp2_with (at_builtin; refine wpList_append_own _ rfl _ _ 32 rfl w1.heap.size 44 i1 _ 3 32 Try.underlying32 hj hj0 hj1 hj2 rfl (by decide) _ _ _ rfl (HO2.out.alloc _) ⟨wc.heap.size, 0, none⟩ 1 1 (PostE.cells ((pk L i, pn L i), pa L i)) rfl rfl (post_new wc ((pk L i, pn L i), pa L i)) (PostE.one _) (by unfold maxLen; omega) (by omega) (by simp; omega) ?_; intro v' w4 hown' hgrow _; have HN := Lib.hid (And.intro hown' hgrow); clear hown' hgrow)
        go_roundw
        case rel =>
          have hrow : ∀ r, u5.ownBlock = some r → w1.heap.size ≤ r := fun r hr => (HO2.out.lt r hr).1
          refine ⟨i + 1, by go_num, hlt, ?_, ?_, fun j hj => ?_⟩
          · show w4.ownsRow _ _ _ _ _ _
            rw [HTK.out, flat_append, flat_single]
            exact HN.out.1
          · exact (HB2.out.alloc (by omega) _).grown HN.out.2 (by simp; omega) hrow
          · by_cases e : j = i
            · rw [e]; exact HBI.out
            · exact HBE.out j (by omega)
        case measure => simp [intOf]; omega
end Go.Proofs.Ytafhdpalobalkaa
