/- merge: slices.Compact at scans and at blames: the walks. -/
import Derived.Test.YtpmoelkblngamaaQMMR16

namespace Go.Proofs.Ytpmoelkblngamaa
open Go.RowKit Go.IntWalk Go.Maps Go.WideMaps

theorem own_cap {α : Type} {k n c : Nat} {E : Enc α k} {w : World} {B : Nat} {T : TypeId} {xs : List α} {la : Option Addr} (h : w.ownsRow B T k (.slice la n c) n (flat E xs)) : n ≤ c := by
  rcases h.2 with ⟨h1, _⟩ | ⟨g, cap, cur, h1, _, _, hnc, _⟩
  · cases h1; exact Nat.le_refl _
  · cases h1; exact hnc

/-- Behind k2 of those from K on: k of the first are what stays. -/
structure CompAt {α : Type} [DecidableEq α] (L : List α) (K k2 k : Nat) (A : List α) : Prop where
  len : A.length = L.length
  rest : ∀ j, K + k2 ≤ j + 1 → A[j]? = L[j]?
  pos : k = (compS (L.take (K + k2))).length
  pre : A.take k = compS (L.take (K + k2))
  kle : k + 1 ≤ K + k2

section
variable {α : Type} [DecidableEq α] {L A : List α} {K k2 k : Nat}

theorem CompAt.start (hK : K < L.length) (hK1 : 1 ≤ K) (hne : ∀ j (hj : j + 1 < L.length), j + 1 < K → L[j] ≠ L[j + 1]) (he : L[K - 1]? = L[K]?) : CompAt L K 1 K L := by
  obtain ⟨m, rfl⟩ : ∃ m, K = m + 1 := ⟨K - 1, by omega⟩
  have e1 : compS (L.take (m + 1 + 1)) = L.take (m + 1) := by
    rw [comp_take hK, if_pos ?_, comp_all hne]
    rw [show m + 1 - 1 = m from rfl, List.getElem?_eq_getElem (by omega), List.getElem?_eq_getElem hK] at he
    exact Option.some.inj he
  exact ⟨rfl, fun _ _ => rfl, by rw [e1, List.length_take]; omega, e1.symm, Nat.le_refl _⟩

theorem CompAt.skip (h : CompAt L K k2 k A) (hK : K + k2 < L.length) (h1 : 1 ≤ k2) (he : L[K + k2 - 1]? = L[K + k2]?) : CompAt L K (k2 + 1) k A := by
  obtain ⟨m, hm⟩ : ∃ m, K + k2 = m + 1 := ⟨K + k2 - 1, by omega⟩
  have e1 : compS (L.take (K + (k2 + 1))) = compS (L.take (K + k2)) := by
    rw [show K + (k2 + 1) = m + 2 from by omega, comp_take (by omega), if_pos ?_, hm]
    rw [show K + k2 - 1 = m from by omega, hm, List.getElem?_eq_getElem (by omega), List.getElem?_eq_getElem (by omega)] at he
    exact Option.some.inj he
  exact ⟨h.len, fun j hj => h.rest j (by omega), by rw [e1]; exact h.pos, by rw [e1]; exact h.pre, by have := h.kle; omega⟩

theorem CompAt.put (h : CompAt L K k2 k A) (hK : K + k2 < L.length) (h1 : 1 ≤ k2) {x : α} (hx : L[K + k2]? = some x) (he : L[K + k2 - 1]? ≠ L[K + k2]?) : CompAt L K (k2 + 1) (k + 1) (A.set k x) := by
  obtain ⟨m, hm⟩ : ∃ m, K + k2 = m + 1 := ⟨K + k2 - 1, by omega⟩
  have hkl := h.kle
  have hx' : L[m + 1]'(by omega) = x := by rw [hm, List.getElem?_eq_getElem (by omega)] at hx; exact Option.some.inj hx
  have e1 : compS (L.take (K + (k2 + 1))) = compS (L.take (K + k2)) ++ [x] := by
    rw [show K + (k2 + 1) = m + 2 from by omega, comp_take (by omega), if_neg ?_, hm, hx']
    rw [show K + k2 - 1 = m from by omega, hm, List.getElem?_eq_getElem (by omega), List.getElem?_eq_getElem (by omega)] at he
    exact fun e => he (by rw [e])
  refine ⟨by rw [List.length_set]; exact h.len, fun j hj => ?_, ?_, ?_, by omega⟩
  · rw [List.getElem?_set_ne (by omega)]
    exact h.rest j (by omega)
  · rw [e1, List.length_append, ← h.pos]; rfl
  · rw [e1, ← h.pre, List.take_succ_eq_append_getElem (by rw [List.length_set, h.len]; omega), List.getElem_set_self, List.take_set_of_le (Nat.le_refl _)]

theorem CompAt.done (h : CompAt L K k2 k A) (hK : K + k2 = L.length) : A.take k = compS L ∧ k = (compS L).length := by
  have := h.pre
  have h2 := h.pos
  rw [hK, List.take_length] at this h2
  exact ⟨this, h2⟩

theorem comp_short (h : L.length < 2) : compS L = L := by
  match L, h with
  | [], _ => rfl
  | [_], _ => rfl
end

/-! ### Scn -/
theorem scn_cells {w : World} {g : Nat} {l : List Scn} (h : RecRow ScnE w g 39 l) (i o : Nat) (ho : o = i * 6) {x : Scn} (hx : l[i]? = some x) : w.cell? ⟨g, o, none⟩ = some (.int .i64 x.gate) ∧ w.cell? ⟨g, o + 1, none⟩ = some (.int .i64 x.number) ∧ w.cell? ⟨g, o + 2, none⟩ = some (.int .i64 x.time) ∧ w.cell? ⟨g, o + 3, none⟩ = some (.int .i64 x.serial) ∧ w.cell? ⟨g, o + 4, none⟩ = some (.int .i64 x.kind) ∧ w.cell? ⟨g, o + 5, none⟩ = some (.string (bs x.owner)) := by
  subst ho
  obtain ⟨hi, rfl⟩ := List.getElem?_eq_some_iff.mp hx
  have c0 := h.cell i 0 hi (by omega)
  have c1 := h.cell i 1 hi (by omega)
  have c2 := h.cell i 2 hi (by omega)
  have c3 := h.cell i 3 hi (by omega)
  have c4 := h.cell i 4 hi (by omega)
  have c5 := h.cell i 5 hi (by omega)
  rw [rc_eq _ _ hi] at c0 c1 c2 c3 c4 c5
  exact ⟨c0, c1, c2, c3, c4, c5⟩

theorem scn_put6 {w : World} {g : Nat} {l : List Scn} (h : RecRow ScnE w g 39 l) (i : Nat) (hi : i < l.length) (x : Scn) :
    RecRow ScnE ((((((w.setCell ⟨g, i * 6, none⟩ (.int .i64 x.gate)).setCell ⟨g, i * 6 + 1, none⟩ (.int .i64 x.number)).setCell ⟨g, i * 6 + 2, none⟩ (.int .i64 x.time)).setCell ⟨g, i * 6 + 3, none⟩ (.int .i64 x.serial)).setCell ⟨g, i * 6 + 4, none⟩ (.int .i64 x.kind)).setCell ⟨g, i * 6 + 5, none⟩ (.string (bs x.owner))) g 39 (l.set i x) := by
  have h1 := h.put i 0 { l[i] with gate := x.gate } (.int .i64 x.gate) hi (by omega) (fun q hq => by
    match q, hq with
    | 0, _ => rfl
    | 1, _ => rw [if_neg (by decide), rc_eq _ _ hi]; rfl
    | 2, _ => rw [if_neg (by decide), rc_eq _ _ hi]; rfl
    | 3, _ => rw [if_neg (by decide), rc_eq _ _ hi]; rfl
    | 4, _ => rw [if_neg (by decide), rc_eq _ _ hi]; rfl
    | 5, _ => rw [if_neg (by decide), rc_eq _ _ hi]; rfl)
  have h2 := h1.put i 1 { l[i] with gate := x.gate, number := x.number } (.int .i64 x.number) (by simpa using hi) (by omega) (fun q hq => by
    match q, hq with
    | 0, _ => rw [if_neg (by decide), rc_eq _ _ (by simpa using hi), List.getElem_set_self]; rfl
    | 1, _ => rfl
    | 2, _ => rw [if_neg (by decide), rc_eq _ _ (by simpa using hi), List.getElem_set_self]; rfl
    | 3, _ => rw [if_neg (by decide), rc_eq _ _ (by simpa using hi), List.getElem_set_self]; rfl
    | 4, _ => rw [if_neg (by decide), rc_eq _ _ (by simpa using hi), List.getElem_set_self]; rfl
    | 5, _ => rw [if_neg (by decide), rc_eq _ _ (by simpa using hi), List.getElem_set_self]; rfl)
  rw [List.set_set] at h2
  have h3 := h2.put i 2 { l[i] with gate := x.gate, number := x.number, time := x.time } (.int .i64 x.time) (by simpa using hi) (by omega) (fun q hq => by
    match q, hq with
    | 0, _ => rw [if_neg (by decide), rc_eq _ _ (by simpa using hi), List.getElem_set_self]; rfl
    | 1, _ => rw [if_neg (by decide), rc_eq _ _ (by simpa using hi), List.getElem_set_self]; rfl
    | 2, _ => rfl
    | 3, _ => rw [if_neg (by decide), rc_eq _ _ (by simpa using hi), List.getElem_set_self]; rfl
    | 4, _ => rw [if_neg (by decide), rc_eq _ _ (by simpa using hi), List.getElem_set_self]; rfl
    | 5, _ => rw [if_neg (by decide), rc_eq _ _ (by simpa using hi), List.getElem_set_self]; rfl)
  rw [List.set_set] at h3
  have h4 := h3.put i 3 { l[i] with gate := x.gate, number := x.number, time := x.time, serial := x.serial } (.int .i64 x.serial) (by simpa using hi) (by omega) (fun q hq => by
    match q, hq with
    | 0, _ => rw [if_neg (by decide), rc_eq _ _ (by simpa using hi), List.getElem_set_self]; rfl
    | 1, _ => rw [if_neg (by decide), rc_eq _ _ (by simpa using hi), List.getElem_set_self]; rfl
    | 2, _ => rw [if_neg (by decide), rc_eq _ _ (by simpa using hi), List.getElem_set_self]; rfl
    | 3, _ => rfl
    | 4, _ => rw [if_neg (by decide), rc_eq _ _ (by simpa using hi), List.getElem_set_self]; rfl
    | 5, _ => rw [if_neg (by decide), rc_eq _ _ (by simpa using hi), List.getElem_set_self]; rfl)
  rw [List.set_set] at h4
  have h5 := h4.put i 4 { l[i] with gate := x.gate, number := x.number, time := x.time, serial := x.serial, kind := x.kind } (.int .i64 x.kind) (by simpa using hi) (by omega) (fun q hq => by
    match q, hq with
    | 0, _ => rw [if_neg (by decide), rc_eq _ _ (by simpa using hi), List.getElem_set_self]; rfl
    | 1, _ => rw [if_neg (by decide), rc_eq _ _ (by simpa using hi), List.getElem_set_self]; rfl
    | 2, _ => rw [if_neg (by decide), rc_eq _ _ (by simpa using hi), List.getElem_set_self]; rfl
    | 3, _ => rw [if_neg (by decide), rc_eq _ _ (by simpa using hi), List.getElem_set_self]; rfl
    | 4, _ => rfl
    | 5, _ => rw [if_neg (by decide), rc_eq _ _ (by simpa using hi), List.getElem_set_self]; rfl)
  rw [List.set_set] at h5
  have h6 := h5.put i 5 { l[i] with gate := x.gate, number := x.number, time := x.time, serial := x.serial, kind := x.kind, owner := x.owner } (.string (bs x.owner)) (by simpa using hi) (by omega) (fun q hq => by
    match q, hq with
    | 0, _ => rw [if_neg (by decide), rc_eq _ _ (by simpa using hi), List.getElem_set_self]; rfl
    | 1, _ => rw [if_neg (by decide), rc_eq _ _ (by simpa using hi), List.getElem_set_self]; rfl
    | 2, _ => rw [if_neg (by decide), rc_eq _ _ (by simpa using hi), List.getElem_set_self]; rfl
    | 3, _ => rw [if_neg (by decide), rc_eq _ _ (by simpa using hi), List.getElem_set_self]; rfl
    | 4, _ => rw [if_neg (by decide), rc_eq _ _ (by simpa using hi), List.getElem_set_self]; rfl
    | 5, _ => rfl)
  rw [List.set_set] at h6
  exact h6

theorem scn_zc_len (n : Nat) : (Builtin.zeroCells (Value.agg #[.int .i64 0, .int .i64 0, .int .i64 0, .int .i64 0, .int .i64 0, .string (bs [])]).cells n).toList.length = n * 6 := by
  simp [Builtin.zeroCells, Value.cells]
  try omega
theorem scn_zc_one (n : Nat) : ∀ v ∈ (Builtin.zeroCells (Value.agg #[.int .i64 0, .int .i64 0, .int .i64 0, .int .i64 0, .int .i64 0, .string (bs [])]).cells n).toList, v.oneCell' = true := by
  intro v hv
  simp [Builtin.zeroCells, Value.cells] at hv
  obtain ⟨i, hi, rfl⟩ := hv
  have : i % 6 = 0 ∨ i % 6 = 1 ∨ i % 6 = 2 ∨ i % 6 = 3 ∨ i % 6 = 4 ∨ i % 6 = 5 := by omega
  rcases this with h | h | h | h | h | h <;> simp [h] <;> rfl
theorem scn_zero (w : World) : (zeroValue 39).run Try.prog w = .ok (.agg #[.int .i64 0, .int .i64 0, .int .i64 0, .int .i64 0, .int .i64 0, .string (bs [])]) w := by kernel_rfl

theorem scn_clear (w : World) (g : Nat) (cur : Array Value) (hb : w.heap[g]? = some (.cells cur 39 (0, 0))) (o n c : Nat) (hsz : o + n * 6 ≤ cur.size) :
    ∃ cur' : Array Value, (∀ j, j < o → cur'[j]? = cur[j]?) ∧ cur'.size = cur.size ∧ ∀ ty, (Builtin.clear_ #[22] ty #[.slice (some ⟨g, o, none⟩) n c]).run Try.prog w = .ok (.tuple #[]) (w.setRow g cur') := by
  have hzv := scn_zero
  have hu := Try.underlying22
  rcases Nat.eq_zero_or_pos n with h | h
  · subst h
    refine ⟨cur, fun _ _ => rfl, rfl, fun ty => ?_⟩
    rw [setRow_self w g cur 39 (0, 0) hb]
    simp [Builtin.clear_, run_underlying hu]
  · obtain ⟨z, hz⟩ : ∃ z, (Builtin.zeroCells (Value.agg #[.int .i64 0, .int .i64 0, .int .i64 0, .int .i64 0, .int .i64 0, .string (bs [])]).cells n).toList = z := ⟨_, rfl⟩
    have hl := scn_zc_len n
    have h1 := scn_zc_one n
    rw [hz] at hl h1
    have hst := run_storeCells_at (P := Try.prog) g o 39 z 0 cur w hb (by omega) h1
    simp only [Nat.add_zero] at hst
    refine ⟨(cur.toList.take o ++ z ++ cur.toList.drop (o + z.length)).toArray, ?_, ?_, fun ty => ?_⟩
    rotate_left 2
    · obtain ⟨m, rfl⟩ : ∃ m, n = m + 1 := ⟨n - 1, by omega⟩
      simp only [Builtin.clear_]
      simp [hz, hst, run_underlying hu, hzv]
    · intro j hj
      simp only [List.getElem?_toArray]
      rw [List.append_assoc, List.getElem?_append_left (by simp; omega), List.getElem?_take_of_lt hj, Array.getElem?_toList]
    · simp; omega

set_option maxRecDepth 100000 in
set_option maxHeartbeats 3200000 in
theorem scn_compact (v : Value) (n B : Nat) (L : List Scn) (w : World) (hn : n ≤ 1000000) (ho : w.ownsRow B 39 6 v n (flat ScnE L)) :
    Calls Try.prog 31 #[v] w fun e w' => ∃ la c, e = .returned (.slice la (compS L).length c) ∧ OwnRecs ScnE w' B 39 la (compS L).length (compS L) ∧ w.grownBy w' v.ownBlock ∧ (la = none → c = 0) ∧ (compS L).length ≤ c := by
  have hL : L.length = n := by have := ho.1; rw [flat_len] at this; omega
  by_cases h2 : n < 2
  · have HC : Hid (compS L = L) := comp_short (by omega)
    obtain ⟨la, c, rfl, hr, hlc⟩ := OwnRecs.of_row2 ho
    have HCP := Lib.hid (own_cap ho)
    have HR := Lib.hid hr
    have HLC := Lib.hid hlc
    have HL := Lib.hid hL
    clear hr ho hL hlc
    go_enter Try.func31, Try.ntmps31
    go_wp2_with fail
    go_ret
    rw [HC.out, HL.out]
    exact ⟨la, c, rfl, HR.out, ⟨rfl, rfl, rfl, Nat.le_refl _, fun _ _ _ => rfl⟩, HLC.out, HCP.out⟩
  obtain ⟨g, cap, rfl, hnc, hBg, _, hr⟩ := RecRow.of_row (by omega) ho
  have HR := Lib.hid hr
  have HL := Lib.hid hL
  have HOB : Hid ((Value.slice (some ⟨g, 0, none⟩) n cap).ownBlock = some g) := rfl
  clear hr ho hL
  go_enter Try.func31, Try.ntmps31
  go_wp2_with fail
  go_loopw [3] (fun v3 wr => ∃ k : Nat, v3 = .int .i64 k ∧ 1 ≤ k ∧ k ≤ n ∧ Hid (Quiet w wr) ∧ Hid (∀ j (hj : j + 1 < L.length), j + 1 < k → L[j] ≠ L[j + 1])) (fun v3 _ => n - (intOf v3).toNat)
  case atStart => exact ⟨1, rfl, Nat.le_refl _, by omega, Quiet.refl _, fun j hj h => by omega⟩
  case round =>
    obtain ⟨k, rfl, hk1, hk, HQ, HNE⟩ := hrel
    obtain ⟨wo, rfl⟩ : ∃ wo : World, wo = wr := ⟨_, rfl⟩
    by_cases hlt : k < n
    · have hkL : k < L.length := by rw [HL.out]; exact hlt
      obtain ⟨m, hm⟩ : ∃ m, m + 1 = k := ⟨k - 1, by omega⟩
      have hmi : (k : Int) - 1 = (m : Int) := by omega
      have hmn : m < n := by omega
      have HMK := Lib.hid hm
      have hmL : m < L.length := by omega
      obtain ⟨x, hx⟩ : ∃ x, L[k]? = some x := ⟨_, List.getElem?_eq_getElem hkL⟩
      obtain ⟨y, hy⟩ : ∃ y, L[m]? = some y := ⟨_, List.getElem?_eq_getElem hmL⟩
      obtain ⟨c0, c1, c2, c3, c4, c5⟩ := scn_cells (HR.out.below HQ.out.below) k (k * 6) rfl hx
      obtain ⟨d0, d1, d2, d3, d4, d5⟩ := scn_cells (HR.out.below HQ.out.below) m (m * 6) rfl hy
      have HX := Lib.hid hx
      have HY := Lib.hid hy
      have hgd := fun (p q : Operand) (wx : World) => guard_scn .eql p q x y wx
      clear hx hy hm
      by_cases hxy : x = y
      · have heq : ∀ wx, Sem.run Try.prog (binOp .eql 39 (.agg #[.int .i64 x.gate, .int .i64 x.number, .int .i64 x.time, .int .i64 x.serial, .int .i64 x.kind, .string (bs x.owner)]) (.agg #[.int .i64 y.gate, .int .i64 y.number, .int .i64 y.time, .int .i64 y.serial, .int .i64 y.kind, .string (bs y.owner)])) wx = .ok (.bool true) wx := fun wx => by rw [eql_scn, hxy]; simp
        have HST : Hid (CompAt L k 1 k L) := CompAt.start hkL hk1 HNE.out (by rw [show k - 1 = m from by have := HMK.out; omega, HX.out, HY.out, hxy])
        clear hxy hkL hmL
        have hcap : ¬ cap = k := by omega
        go_upto_region 6 with fail
        go_region
        have HG1 : Hid (w.grownBy wo.drew (some g)) := by
          obtain ⟨q, rfl⟩ := HQ.out
          exact grown_below ((below_drewN (Below.refl _ _) q).drew) _
        have HR1 : Hid (RecRow ScnE wo.drew g 39 L) := HR.out.below HQ.out.next.below
        clear c0 c1 c2 c3 c4 c5 d0 d1 d2 d3 d4 d5 heq hgd HQ HNE HMK hmi HX HY
        generalize wo.drew = w1 at *
        go_wp2_with fail
        go_loopw [3, 5] (fun v3 v5 wx => ∃ (i k2 : Nat) (A : List Scn), v3 = .int .i64 i ∧ v5 = .int .i64 k2 ∧ 1 ≤ k2 ∧ k2 ≤ n - k ∧ i + 1 ≤ k + k2 ∧ Hid (CompAt L k k2 i A) ∧ Hid (RecRow ScnE wx g 39 A) ∧ Hid (w.grownBy wx (some g))) (fun _ v5 _ => n - k - (intOf v5).toNat)
        case atStart => exact ⟨k, 1, L, rfl, rfl, Nat.le_refl _, by omega, Nat.le_refl _, HST, HR1, HG1⟩
        case round =>
          clear HR1 HG1 HST
          obtain ⟨i, k2, A, rfl, rfl, hk21, hk2, hik, HC, HA, HG⟩ := hrel
          have hAl : A.length = n := by rw [HC.out.len, HL.out]
          by_cases hl2 : k2 < n - k
          · have hp : k + k2 < L.length := by rw [HL.out]; omega
            obtain ⟨m2, hm2⟩ : ∃ m, m + 1 = k2 := ⟨k2 - 1, by omega⟩
            have hmi2 : (k2 : Int) - 1 = (m2 : Int) := by omega
            have hmn2 : m2 < n - k := by omega
            obtain ⟨x2, hx2⟩ : ∃ x, L[k + k2]? = some x := ⟨_, List.getElem?_eq_getElem hp⟩
            obtain ⟨y2, hy2⟩ : ∃ y, L[k + m2]? = some y := ⟨_, List.getElem?_eq_getElem (by omega)⟩
            obtain ⟨c0, c1, c2, c3, c4, c5⟩ := scn_cells HA.out (k + k2) (k * 6 + k2 * 6) (by omega) ((HC.out.rest _ (by omega)).trans hx2)
            obtain ⟨d0, d1, d2, d3, d4, d5⟩ := scn_cells HA.out (k + m2) (k * 6 + m2 * 6) (by omega) ((HC.out.rest _ (by omega)).trans hy2)
            have hgd2 := fun (p q : Operand) (wx : World) => guard_scn .neq p q x2 y2 wx
            have HPM : Hid (k + k2 - 1 = k + m2) := by show _ = _; omega
            have HX2 := Lib.hid hx2
            have HY2 := Lib.hid hy2
            have HP := Lib.hid hp
            have HAL := Lib.hid hAl
            have HG2 : Hid (w.grownBy wr.drew (some g)) := gtrans HG.out (grown_below (Below.refl _ _).drew _)
            have HA2 : Hid (RecRow ScnE wr.drew g 39 A) := HA.out.drewN 1
            clear hx2 hy2 hm2 hp hAl
            by_cases hxy2 : x2 = y2
            · have heq : ∀ wx, Sem.run Try.prog (binOp .neq 39 (.agg #[.int .i64 x2.gate, .int .i64 x2.number, .int .i64 x2.time, .int .i64 x2.serial, .int .i64 x2.kind, .string (bs x2.owner)]) (.agg #[.int .i64 y2.gate, .int .i64 y2.number, .int .i64 y2.time, .int .i64 y2.serial, .int .i64 y2.kind, .string (bs y2.owner)])) wx = .ok (.bool false) wx := fun wx => by rw [neq_scn, hxy2]; simp
              have HST : Hid (CompAt L k (k2 + 1) i A) := HC.out.skip HP.out hk21 (by rw [HPM.out, HX2.out, HY2.out, hxy2])
              clear hxy2 HX2 HY2 HPM HP HAL HG HA
              go_upto_region 11 with fail
              go_region
              generalize wr.drew = w2 at *
              go_wp2_with fail
              go_roundw
              case rel => exact ⟨i, k2 + 1, A, rfl, by go_num, by omega, by omega, by omega, HST, HA2, HG2⟩
              case measure => simp [intOf]; omega
            · have heq : ∀ wx, Sem.run Try.prog (binOp .neq 39 (.agg #[.int .i64 x2.gate, .int .i64 x2.number, .int .i64 x2.time, .int .i64 x2.serial, .int .i64 x2.kind, .string (bs x2.owner)]) (.agg #[.int .i64 y2.gate, .int .i64 y2.number, .int .i64 y2.time, .int .i64 y2.serial, .int .i64 y2.kind, .string (bs y2.owner)])) wx = .ok (.bool true) wx := fun wx => by rw [neq_scn]; simp [hxy2]
              have HST : Hid (CompAt L k (k2 + 1) (i + 1) (A.set i x2)) := HC.out.put HP.out hk21 HX2.out (by rw [HPM.out, HX2.out, HY2.out]; exact fun e => hxy2 (Option.some.inj e).symm)
              have hiA : i < A.length := by rw [HAL.out]; omega
              obtain ⟨z, hz⟩ : ∃ z, A[i]? = some z := ⟨_, List.getElem?_eq_getElem hiA⟩
              have HIA := Lib.hid hiA
              have HZ := Lib.hid hz
              have HA3 := Lib.hid (scn_put6 HA2.out i hiA x2)
              have HG3 : Hid (w.grownBy ((((((wr.drew.setCell ⟨g, i * 6, none⟩ (.int .i64 x2.gate)).setCell ⟨g, i * 6 + 1, none⟩ (.int .i64 x2.number)).setCell ⟨g, i * 6 + 2, none⟩ (.int .i64 x2.time)).setCell ⟨g, i * 6 + 3, none⟩ (.int .i64 x2.serial)).setCell ⟨g, i * 6 + 4, none⟩ (.int .i64 x2.kind)).setCell ⟨g, i * 6 + 5, none⟩ (.string (bs x2.owner))) (some g)) := gtrans (gtrans (gtrans (gtrans (gtrans (gtrans HG2.out (grown_cell _ _ _)) (grown_cell _ _ _)) (grown_cell _ _ _)) (grown_cell _ _ _)) (grown_cell _ _ _)) (grown_cell _ _ _)
              clear hxy2 hiA hz HPM HP HX2 HY2 HG
              go_upto_region 11 with fail
              go_region
              obtain ⟨c0', c1', c2', c3', c4', c5'⟩ : wr.drew.cell? ⟨g, k * 6 + k2 * 6, none⟩ = some (.int .i64 x2.gate) ∧ wr.drew.cell? ⟨g, k * 6 + k2 * 6 + 1, none⟩ = some (.int .i64 x2.number) ∧ wr.drew.cell? ⟨g, k * 6 + k2 * 6 + 2, none⟩ = some (.int .i64 x2.time) ∧ wr.drew.cell? ⟨g, k * 6 + k2 * 6 + 3, none⟩ = some (.int .i64 x2.serial) ∧ wr.drew.cell? ⟨g, k * 6 + k2 * 6 + 4, none⟩ = some (.int .i64 x2.kind) ∧ wr.drew.cell? ⟨g, k * 6 + k2 * 6 + 5, none⟩ = some (.string (bs x2.owner)) := ⟨c0, c1, c2, c3, c4, c5⟩
              obtain ⟨z0, z1, z2, z3, z4, z5⟩ := scn_cells HA2.out i (i * 6) rfl HZ.out
              have f0 := HA2.out.free (i * 6)
              have f1 := HA2.out.free (i * 6 + 1)
              have f2 := HA2.out.free (i * 6 + 2)
              have f3 := HA2.out.free (i * 6 + 3)
              have f4 := HA2.out.free (i * 6 + 4)
              have f5 := HA2.out.free (i * 6 + 5)
              clear c0 c1 c2 c3 c4 c5 d0 d1 d2 d3 d4 d5 heq hgd2 HA HIA HZ HAL
              generalize wr.drew = w2 at *
              go_wp2_with fail
              go_roundw
              case rel => exact ⟨i + 1, k2 + 1, _, by go_num, by go_num, by omega, by omega, by omega, HST, HA3, HG3⟩
              case measure => simp [intOf]; omega
          · have hdone := HC.out.done (by rw [HL.out]; omega)
            have HD1 := Lib.hid hdone.1
            have HD2 := Lib.hid hdone.2
            clear hdone HC
            obtain ⟨arr, ha, hs, hcc⟩ := HA.out
            have HAR := Lib.hid ha
            have HCC := Lib.hid hcc
            rw [hAl] at hs
            have HAL := Lib.hid hAl
            have hs2 : i * 6 + (n - i) * 6 ≤ arr.size := by omega
            obtain ⟨cur', hsame, hsz, hclr⟩ := scn_clear wr g arr ha (i * 6) (n - i) (cap - i) hs2
            have hin : i < n := by omega
            have hci : ¬ cap = i := by omega
            have HF : Hid (w.grownBy (wr.setRow g cur') (some g) ∧ RecRow ScnE (wr.setRow g cur') g 39 (compS L)) := by
              refine ⟨gtrans HG.out ⟨rfl, rfl, rfl, by simp, fun k _ hk => setRow_other wr g k cur' (fun e => hk (by rw [e]))⟩, cur', setRow_heap wr g arr cur' _ _ ha, ?_, fun i' j' hi' hj'' => ?_⟩
              · rw [← HD2.out]; omega
              · rw [← HD2.out] at hi'
                have hpl := place_lt (k := 6) hi' hj''
                rw [hsame _ hpl, HCC.out i' j' (by rw [HAL.out]; omega) hj'', rc_eq _ _ (by rw [HAL.out]; omega), rc_eq _ _ (by rw [← HD2.out]; exact hi')]
                have e : (compS L)[i']'(by rw [← HD2.out]; exact hi') = A[i']'(by rw [HAL.out]; omega) := by
                  have : (A.take i)[i']? = (compS L)[i']? := by rw [HD1.out]
                  rw [List.getElem?_take_of_lt hi', List.getElem?_eq_getElem (by rw [HAL.out]; omega), List.getElem?_eq_getElem (by rw [← HD2.out]; exact hi')] at this
                  exact (Option.some.inj this).symm
                rw [e]
            clear ha hs hcc hs2 hsame hsz hAl HAR HCC HAL HA HG
            go_wp2_with (simp only [hclr])
            go_ret
            rw [HOB.out, ← HD2.out]
            refine ⟨_, _, rfl, ⟨HD2.out.symm, fun _ => ⟨g, rfl, hBg, HF.out.2⟩⟩, HF.out.1, (fun e => by cases e), by rw [HD2.out]; exact Nat.le_trans (compS_len L) (by rw [HL.out]; exact hnc)⟩
      · have heq : ∀ wx, Sem.run Try.prog (binOp .eql 39 (.agg #[.int .i64 x.gate, .int .i64 x.number, .int .i64 x.time, .int .i64 x.serial, .int .i64 x.kind, .string (bs x.owner)]) (.agg #[.int .i64 y.gate, .int .i64 y.number, .int .i64 y.time, .int .i64 y.serial, .int .i64 y.kind, .string (bs y.owner)])) wx = .ok (.bool false) wx := fun wx => by rw [eql_scn]; simp [hxy]
        have HNE2 : Hid (∀ j (hj : j + 1 < L.length), j + 1 < k + 1 → L[j] ≠ L[j + 1]) := fun j hj hjk => by
          by_cases e : j = m
          · subst e
            intro e2
            have h1 := HX.out
            have h2 := HY.out
            have hmk := HMK.out
            subst hmk
            rw [List.getElem?_eq_getElem hj] at h1
            rw [List.getElem?_eq_getElem (by omega)] at h2
            exact hxy ((Option.some.inj h1).symm.trans (e2.symm.trans (Option.some.inj h2)))
          · exact HNE.out j hj (by have := HMK.out; omega)
        clear hxy hkL hmL HX HY HMK HNE
        go_upto_region 6 with fail
        go_region
        go_wp2_with fail
        go_roundw
        case rel => exact ⟨k + 1, by go_num, by omega, hlt, HQ.out.next, HNE2⟩
        case measure => simp [intOf]; omega
    · have hk' : k = n := by omega
      subst hk'
      have HC : Hid (compS L = L) := by
        have := comp_all HNE.out
        rw [← HL.out, List.take_length] at this
        exact this
      go_wp2_with fail
      go_ret
      rw [HOB.out, HC.out]
      exact ⟨_, _, by rw [HL.out]; rfl, ⟨rfl, fun _ => ⟨g, rfl, hBg, HR.out.below HQ.out.below⟩⟩, grown_below HQ.out.below _, (fun e => by cases e), by rw [HL.out]; exact hnc⟩

/-! ### Blm -/
theorem blm_cells {w : World} {g : Nat} {l : List Blm} (h : RecRow BlmE w g 48 l) (i o : Nat) (ho : o = i * 6) {x : Blm} (hx : l[i]? = some x) : w.cell? ⟨g, o, none⟩ = some (.int .i64 x.kind) ∧ w.cell? ⟨g, o + 1, none⟩ = some (.int .i64 x.serial) ∧ w.cell? ⟨g, o + 2, none⟩ = some (.int .i64 x.gate) ∧ w.cell? ⟨g, o + 3, none⟩ = some (.int .i64 x.number) ∧ w.cell? ⟨g, o + 4, none⟩ = some (.int .i64 x.other) ∧ w.cell? ⟨g, o + 5, none⟩ = some (.int .i64 x.count) := by
  subst ho
  obtain ⟨hi, rfl⟩ := List.getElem?_eq_some_iff.mp hx
  have c0 := h.cell i 0 hi (by omega)
  have c1 := h.cell i 1 hi (by omega)
  have c2 := h.cell i 2 hi (by omega)
  have c3 := h.cell i 3 hi (by omega)
  have c4 := h.cell i 4 hi (by omega)
  have c5 := h.cell i 5 hi (by omega)
  rw [rc_eq _ _ hi] at c0 c1 c2 c3 c4 c5
  exact ⟨c0, c1, c2, c3, c4, c5⟩

theorem blm_put6 {w : World} {g : Nat} {l : List Blm} (h : RecRow BlmE w g 48 l) (i : Nat) (hi : i < l.length) (x : Blm) :
    RecRow BlmE ((((((w.setCell ⟨g, i * 6, none⟩ (.int .i64 x.kind)).setCell ⟨g, i * 6 + 1, none⟩ (.int .i64 x.serial)).setCell ⟨g, i * 6 + 2, none⟩ (.int .i64 x.gate)).setCell ⟨g, i * 6 + 3, none⟩ (.int .i64 x.number)).setCell ⟨g, i * 6 + 4, none⟩ (.int .i64 x.other)).setCell ⟨g, i * 6 + 5, none⟩ (.int .i64 x.count)) g 48 (l.set i x) := by
  have h1 := h.put i 0 { l[i] with kind := x.kind } (.int .i64 x.kind) hi (by omega) (fun q hq => by
    match q, hq with
    | 0, _ => rfl
    | 1, _ => rw [if_neg (by decide), rc_eq _ _ hi]; rfl
    | 2, _ => rw [if_neg (by decide), rc_eq _ _ hi]; rfl
    | 3, _ => rw [if_neg (by decide), rc_eq _ _ hi]; rfl
    | 4, _ => rw [if_neg (by decide), rc_eq _ _ hi]; rfl
    | 5, _ => rw [if_neg (by decide), rc_eq _ _ hi]; rfl)
  have h2 := h1.put i 1 { l[i] with kind := x.kind, serial := x.serial } (.int .i64 x.serial) (by simpa using hi) (by omega) (fun q hq => by
    match q, hq with
    | 0, _ => rw [if_neg (by decide), rc_eq _ _ (by simpa using hi), List.getElem_set_self]; rfl
    | 1, _ => rfl
    | 2, _ => rw [if_neg (by decide), rc_eq _ _ (by simpa using hi), List.getElem_set_self]; rfl
    | 3, _ => rw [if_neg (by decide), rc_eq _ _ (by simpa using hi), List.getElem_set_self]; rfl
    | 4, _ => rw [if_neg (by decide), rc_eq _ _ (by simpa using hi), List.getElem_set_self]; rfl
    | 5, _ => rw [if_neg (by decide), rc_eq _ _ (by simpa using hi), List.getElem_set_self]; rfl)
  rw [List.set_set] at h2
  have h3 := h2.put i 2 { l[i] with kind := x.kind, serial := x.serial, gate := x.gate } (.int .i64 x.gate) (by simpa using hi) (by omega) (fun q hq => by
    match q, hq with
    | 0, _ => rw [if_neg (by decide), rc_eq _ _ (by simpa using hi), List.getElem_set_self]; rfl
    | 1, _ => rw [if_neg (by decide), rc_eq _ _ (by simpa using hi), List.getElem_set_self]; rfl
    | 2, _ => rfl
    | 3, _ => rw [if_neg (by decide), rc_eq _ _ (by simpa using hi), List.getElem_set_self]; rfl
    | 4, _ => rw [if_neg (by decide), rc_eq _ _ (by simpa using hi), List.getElem_set_self]; rfl
    | 5, _ => rw [if_neg (by decide), rc_eq _ _ (by simpa using hi), List.getElem_set_self]; rfl)
  rw [List.set_set] at h3
  have h4 := h3.put i 3 { l[i] with kind := x.kind, serial := x.serial, gate := x.gate, number := x.number } (.int .i64 x.number) (by simpa using hi) (by omega) (fun q hq => by
    match q, hq with
    | 0, _ => rw [if_neg (by decide), rc_eq _ _ (by simpa using hi), List.getElem_set_self]; rfl
    | 1, _ => rw [if_neg (by decide), rc_eq _ _ (by simpa using hi), List.getElem_set_self]; rfl
    | 2, _ => rw [if_neg (by decide), rc_eq _ _ (by simpa using hi), List.getElem_set_self]; rfl
    | 3, _ => rfl
    | 4, _ => rw [if_neg (by decide), rc_eq _ _ (by simpa using hi), List.getElem_set_self]; rfl
    | 5, _ => rw [if_neg (by decide), rc_eq _ _ (by simpa using hi), List.getElem_set_self]; rfl)
  rw [List.set_set] at h4
  have h5 := h4.put i 4 { l[i] with kind := x.kind, serial := x.serial, gate := x.gate, number := x.number, other := x.other } (.int .i64 x.other) (by simpa using hi) (by omega) (fun q hq => by
    match q, hq with
    | 0, _ => rw [if_neg (by decide), rc_eq _ _ (by simpa using hi), List.getElem_set_self]; rfl
    | 1, _ => rw [if_neg (by decide), rc_eq _ _ (by simpa using hi), List.getElem_set_self]; rfl
    | 2, _ => rw [if_neg (by decide), rc_eq _ _ (by simpa using hi), List.getElem_set_self]; rfl
    | 3, _ => rw [if_neg (by decide), rc_eq _ _ (by simpa using hi), List.getElem_set_self]; rfl
    | 4, _ => rfl
    | 5, _ => rw [if_neg (by decide), rc_eq _ _ (by simpa using hi), List.getElem_set_self]; rfl)
  rw [List.set_set] at h5
  have h6 := h5.put i 5 { l[i] with kind := x.kind, serial := x.serial, gate := x.gate, number := x.number, other := x.other, count := x.count } (.int .i64 x.count) (by simpa using hi) (by omega) (fun q hq => by
    match q, hq with
    | 0, _ => rw [if_neg (by decide), rc_eq _ _ (by simpa using hi), List.getElem_set_self]; rfl
    | 1, _ => rw [if_neg (by decide), rc_eq _ _ (by simpa using hi), List.getElem_set_self]; rfl
    | 2, _ => rw [if_neg (by decide), rc_eq _ _ (by simpa using hi), List.getElem_set_self]; rfl
    | 3, _ => rw [if_neg (by decide), rc_eq _ _ (by simpa using hi), List.getElem_set_self]; rfl
    | 4, _ => rw [if_neg (by decide), rc_eq _ _ (by simpa using hi), List.getElem_set_self]; rfl
    | 5, _ => rfl)
  rw [List.set_set] at h6
  exact h6

theorem blm_zc_len (n : Nat) : (Builtin.zeroCells (Value.agg #[.int .i64 0, .int .i64 0, .int .i64 0, .int .i64 0, .int .i64 0, .int .i64 0]).cells n).toList.length = n * 6 := by
  simp [Builtin.zeroCells, Value.cells]
  try omega
theorem blm_zc_one (n : Nat) : ∀ v ∈ (Builtin.zeroCells (Value.agg #[.int .i64 0, .int .i64 0, .int .i64 0, .int .i64 0, .int .i64 0, .int .i64 0]).cells n).toList, v.oneCell' = true := by
  intro v hv
  simp [Builtin.zeroCells, Value.cells] at hv
  obtain ⟨i, hi, rfl⟩ := hv
  have : i % 6 = 0 ∨ i % 6 = 1 ∨ i % 6 = 2 ∨ i % 6 = 3 ∨ i % 6 = 4 ∨ i % 6 = 5 := by omega
  rcases this with h | h | h | h | h | h <;> simp [h] <;> rfl
theorem blm_zero (w : World) : (zeroValue 48).run Try.prog w = .ok (.agg #[.int .i64 0, .int .i64 0, .int .i64 0, .int .i64 0, .int .i64 0, .int .i64 0]) w := by kernel_rfl

theorem blm_clear (w : World) (g : Nat) (cur : Array Value) (hb : w.heap[g]? = some (.cells cur 48 (0, 0))) (o n c : Nat) (hsz : o + n * 6 ≤ cur.size) :
    ∃ cur' : Array Value, (∀ j, j < o → cur'[j]? = cur[j]?) ∧ cur'.size = cur.size ∧ ∀ ty, (Builtin.clear_ #[71] ty #[.slice (some ⟨g, o, none⟩) n c]).run Try.prog w = .ok (.tuple #[]) (w.setRow g cur') := by
  have hzv := blm_zero
  have hu := Try.underlying71
  rcases Nat.eq_zero_or_pos n with h | h
  · subst h
    refine ⟨cur, fun _ _ => rfl, rfl, fun ty => ?_⟩
    rw [setRow_self w g cur 48 (0, 0) hb]
    simp [Builtin.clear_, run_underlying hu]
  · obtain ⟨z, hz⟩ : ∃ z, (Builtin.zeroCells (Value.agg #[.int .i64 0, .int .i64 0, .int .i64 0, .int .i64 0, .int .i64 0, .int .i64 0]).cells n).toList = z := ⟨_, rfl⟩
    have hl := blm_zc_len n
    have h1 := blm_zc_one n
    rw [hz] at hl h1
    have hst := run_storeCells_at (P := Try.prog) g o 48 z 0 cur w hb (by omega) h1
    simp only [Nat.add_zero] at hst
    refine ⟨(cur.toList.take o ++ z ++ cur.toList.drop (o + z.length)).toArray, ?_, ?_, fun ty => ?_⟩
    rotate_left 2
    · obtain ⟨m, rfl⟩ : ∃ m, n = m + 1 := ⟨n - 1, by omega⟩
      simp only [Builtin.clear_]
      simp [hz, hst, run_underlying hu, hzv]
    · intro j hj
      simp only [List.getElem?_toArray]
      rw [List.append_assoc, List.getElem?_append_left (by simp; omega), List.getElem?_take_of_lt hj, Array.getElem?_toList]
    · simp; omega

set_option maxRecDepth 100000 in
set_option maxHeartbeats 3200000 in
theorem blm_compact (v : Value) (n B : Nat) (L : List Blm) (w : World) (hn : n ≤ 1000000) (ho : w.ownsRow B 48 6 v n (flat BlmE L)) :
    Calls Try.prog 43 #[v] w fun e w' => ∃ la c, e = .returned (.slice la (compS L).length c) ∧ OwnRecs BlmE w' B 48 la (compS L).length (compS L) ∧ w.grownBy w' v.ownBlock ∧ (la = none → c = 0) ∧ (compS L).length ≤ c := by
  have hL : L.length = n := by have := ho.1; rw [flat_len] at this; omega
  by_cases h2 : n < 2
  · have HC : Hid (compS L = L) := comp_short (by omega)
    obtain ⟨la, c, rfl, hr, hlc⟩ := OwnRecs.of_row2 ho
    have HCP := Lib.hid (own_cap ho)
    have HR := Lib.hid hr
    have HLC := Lib.hid hlc
    have HL := Lib.hid hL
    clear hr ho hL hlc
    go_enter Try.func43, Try.ntmps43
    go_wp2_with fail
    go_ret
    rw [HC.out, HL.out]
    exact ⟨la, c, rfl, HR.out, ⟨rfl, rfl, rfl, Nat.le_refl _, fun _ _ _ => rfl⟩, HLC.out, HCP.out⟩
  obtain ⟨g, cap, rfl, hnc, hBg, _, hr⟩ := RecRow.of_row (by omega) ho
  have HR := Lib.hid hr
  have HL := Lib.hid hL
  have HOB : Hid ((Value.slice (some ⟨g, 0, none⟩) n cap).ownBlock = some g) := rfl
  clear hr ho hL
  go_enter Try.func43, Try.ntmps43
  go_wp2_with fail
  go_loopw [3] (fun v3 wr => ∃ k : Nat, v3 = .int .i64 k ∧ 1 ≤ k ∧ k ≤ n ∧ Hid (Quiet w wr) ∧ Hid (∀ j (hj : j + 1 < L.length), j + 1 < k → L[j] ≠ L[j + 1])) (fun v3 _ => n - (intOf v3).toNat)
  case atStart => exact ⟨1, rfl, Nat.le_refl _, by omega, Quiet.refl _, fun j hj h => by omega⟩
  case round =>
    obtain ⟨k, rfl, hk1, hk, HQ, HNE⟩ := hrel
    obtain ⟨wo, rfl⟩ : ∃ wo : World, wo = wr := ⟨_, rfl⟩
    by_cases hlt : k < n
    · have hkL : k < L.length := by rw [HL.out]; exact hlt
      obtain ⟨m, hm⟩ : ∃ m, m + 1 = k := ⟨k - 1, by omega⟩
      have hmi : (k : Int) - 1 = (m : Int) := by omega
      have hmn : m < n := by omega
      have HMK := Lib.hid hm
      have hmL : m < L.length := by omega
      obtain ⟨x, hx⟩ : ∃ x, L[k]? = some x := ⟨_, List.getElem?_eq_getElem hkL⟩
      obtain ⟨y, hy⟩ : ∃ y, L[m]? = some y := ⟨_, List.getElem?_eq_getElem hmL⟩
      obtain ⟨c0, c1, c2, c3, c4, c5⟩ := blm_cells (HR.out.below HQ.out.below) k (k * 6) rfl hx
      obtain ⟨d0, d1, d2, d3, d4, d5⟩ := blm_cells (HR.out.below HQ.out.below) m (m * 6) rfl hy
      have HX := Lib.hid hx
      have HY := Lib.hid hy
      have hgd := fun (p q : Operand) (wx : World) => guard_blm .eql p q x y wx
      clear hx hy hm
      by_cases hxy : x = y
      · have heq : ∀ wx, Sem.run Try.prog (binOp .eql 48 (.agg #[.int .i64 x.kind, .int .i64 x.serial, .int .i64 x.gate, .int .i64 x.number, .int .i64 x.other, .int .i64 x.count]) (.agg #[.int .i64 y.kind, .int .i64 y.serial, .int .i64 y.gate, .int .i64 y.number, .int .i64 y.other, .int .i64 y.count])) wx = .ok (.bool true) wx := fun wx => by rw [eql_blm, hxy]; simp
        have HST : Hid (CompAt L k 1 k L) := CompAt.start hkL hk1 HNE.out (by rw [show k - 1 = m from by have := HMK.out; omega, HX.out, HY.out, hxy])
        clear hxy hkL hmL
        have hcap : ¬ cap = k := by omega
        go_upto_region 6 with fail
        go_region
        have HG1 : Hid (w.grownBy wo.drew (some g)) := by
          obtain ⟨q, rfl⟩ := HQ.out
          exact grown_below ((below_drewN (Below.refl _ _) q).drew) _
        have HR1 : Hid (RecRow BlmE wo.drew g 48 L) := HR.out.below HQ.out.next.below
        clear c0 c1 c2 c3 c4 c5 d0 d1 d2 d3 d4 d5 heq hgd HQ HNE HMK hmi HX HY
        generalize wo.drew = w1 at *
        go_wp2_with fail
        go_loopw [3, 5] (fun v3 v5 wx => ∃ (i k2 : Nat) (A : List Blm), v3 = .int .i64 i ∧ v5 = .int .i64 k2 ∧ 1 ≤ k2 ∧ k2 ≤ n - k ∧ i + 1 ≤ k + k2 ∧ Hid (CompAt L k k2 i A) ∧ Hid (RecRow BlmE wx g 48 A) ∧ Hid (w.grownBy wx (some g))) (fun _ v5 _ => n - k - (intOf v5).toNat)
        case atStart => exact ⟨k, 1, L, rfl, rfl, Nat.le_refl _, by omega, Nat.le_refl _, HST, HR1, HG1⟩
        case round =>
          clear HR1 HG1 HST
          obtain ⟨i, k2, A, rfl, rfl, hk21, hk2, hik, HC, HA, HG⟩ := hrel
          have hAl : A.length = n := by rw [HC.out.len, HL.out]
          by_cases hl2 : k2 < n - k
          · have hp : k + k2 < L.length := by rw [HL.out]; omega
            obtain ⟨m2, hm2⟩ : ∃ m, m + 1 = k2 := ⟨k2 - 1, by omega⟩
            have hmi2 : (k2 : Int) - 1 = (m2 : Int) := by omega
            have hmn2 : m2 < n - k := by omega
            obtain ⟨x2, hx2⟩ : ∃ x, L[k + k2]? = some x := ⟨_, List.getElem?_eq_getElem hp⟩
            obtain ⟨y2, hy2⟩ : ∃ y, L[k + m2]? = some y := ⟨_, List.getElem?_eq_getElem (by omega)⟩
            obtain ⟨c0, c1, c2, c3, c4, c5⟩ := blm_cells HA.out (k + k2) (k * 6 + k2 * 6) (by omega) ((HC.out.rest _ (by omega)).trans hx2)
            obtain ⟨d0, d1, d2, d3, d4, d5⟩ := blm_cells HA.out (k + m2) (k * 6 + m2 * 6) (by omega) ((HC.out.rest _ (by omega)).trans hy2)
            have hgd2 := fun (p q : Operand) (wx : World) => guard_blm .neq p q x2 y2 wx
            have HPM : Hid (k + k2 - 1 = k + m2) := by show _ = _; omega
            have HX2 := Lib.hid hx2
            have HY2 := Lib.hid hy2
            have HP := Lib.hid hp
            have HAL := Lib.hid hAl
            have HG2 : Hid (w.grownBy wr.drew (some g)) := gtrans HG.out (grown_below (Below.refl _ _).drew _)
            have HA2 : Hid (RecRow BlmE wr.drew g 48 A) := HA.out.drewN 1
            clear hx2 hy2 hm2 hp hAl
            by_cases hxy2 : x2 = y2
            · have heq : ∀ wx, Sem.run Try.prog (binOp .neq 48 (.agg #[.int .i64 x2.kind, .int .i64 x2.serial, .int .i64 x2.gate, .int .i64 x2.number, .int .i64 x2.other, .int .i64 x2.count]) (.agg #[.int .i64 y2.kind, .int .i64 y2.serial, .int .i64 y2.gate, .int .i64 y2.number, .int .i64 y2.other, .int .i64 y2.count])) wx = .ok (.bool false) wx := fun wx => by rw [neq_blm, hxy2]; simp
              have HST : Hid (CompAt L k (k2 + 1) i A) := HC.out.skip HP.out hk21 (by rw [HPM.out, HX2.out, HY2.out, hxy2])
              clear hxy2 HX2 HY2 HPM HP HAL HG HA
              go_upto_region 11 with fail
              go_region
              generalize wr.drew = w2 at *
              go_wp2_with fail
              go_roundw
              case rel => exact ⟨i, k2 + 1, A, rfl, by go_num, by omega, by omega, by omega, HST, HA2, HG2⟩
              case measure => simp [intOf]; omega
            · have heq : ∀ wx, Sem.run Try.prog (binOp .neq 48 (.agg #[.int .i64 x2.kind, .int .i64 x2.serial, .int .i64 x2.gate, .int .i64 x2.number, .int .i64 x2.other, .int .i64 x2.count]) (.agg #[.int .i64 y2.kind, .int .i64 y2.serial, .int .i64 y2.gate, .int .i64 y2.number, .int .i64 y2.other, .int .i64 y2.count])) wx = .ok (.bool true) wx := fun wx => by rw [neq_blm]; simp [hxy2]
              have HST : Hid (CompAt L k (k2 + 1) (i + 1) (A.set i x2)) := HC.out.put HP.out hk21 HX2.out (by rw [HPM.out, HX2.out, HY2.out]; exact fun e => hxy2 (Option.some.inj e).symm)
              have hiA : i < A.length := by rw [HAL.out]; omega
              obtain ⟨z, hz⟩ : ∃ z, A[i]? = some z := ⟨_, List.getElem?_eq_getElem hiA⟩
              have HIA := Lib.hid hiA
              have HZ := Lib.hid hz
              have HA3 := Lib.hid (blm_put6 HA2.out i hiA x2)
              have HG3 : Hid (w.grownBy ((((((wr.drew.setCell ⟨g, i * 6, none⟩ (.int .i64 x2.kind)).setCell ⟨g, i * 6 + 1, none⟩ (.int .i64 x2.serial)).setCell ⟨g, i * 6 + 2, none⟩ (.int .i64 x2.gate)).setCell ⟨g, i * 6 + 3, none⟩ (.int .i64 x2.number)).setCell ⟨g, i * 6 + 4, none⟩ (.int .i64 x2.other)).setCell ⟨g, i * 6 + 5, none⟩ (.int .i64 x2.count)) (some g)) := gtrans (gtrans (gtrans (gtrans (gtrans (gtrans HG2.out (grown_cell _ _ _)) (grown_cell _ _ _)) (grown_cell _ _ _)) (grown_cell _ _ _)) (grown_cell _ _ _)) (grown_cell _ _ _)
              clear hxy2 hiA hz HPM HP HX2 HY2 HG
              go_upto_region 11 with fail
              go_region
              obtain ⟨c0', c1', c2', c3', c4', c5'⟩ : wr.drew.cell? ⟨g, k * 6 + k2 * 6, none⟩ = some (.int .i64 x2.kind) ∧ wr.drew.cell? ⟨g, k * 6 + k2 * 6 + 1, none⟩ = some (.int .i64 x2.serial) ∧ wr.drew.cell? ⟨g, k * 6 + k2 * 6 + 2, none⟩ = some (.int .i64 x2.gate) ∧ wr.drew.cell? ⟨g, k * 6 + k2 * 6 + 3, none⟩ = some (.int .i64 x2.number) ∧ wr.drew.cell? ⟨g, k * 6 + k2 * 6 + 4, none⟩ = some (.int .i64 x2.other) ∧ wr.drew.cell? ⟨g, k * 6 + k2 * 6 + 5, none⟩ = some (.int .i64 x2.count) := ⟨c0, c1, c2, c3, c4, c5⟩
              obtain ⟨z0, z1, z2, z3, z4, z5⟩ := blm_cells HA2.out i (i * 6) rfl HZ.out
              have f0 := HA2.out.free (i * 6)
              have f1 := HA2.out.free (i * 6 + 1)
              have f2 := HA2.out.free (i * 6 + 2)
              have f3 := HA2.out.free (i * 6 + 3)
              have f4 := HA2.out.free (i * 6 + 4)
              have f5 := HA2.out.free (i * 6 + 5)
              clear c0 c1 c2 c3 c4 c5 d0 d1 d2 d3 d4 d5 heq hgd2 HA HIA HZ HAL
              generalize wr.drew = w2 at *
              go_wp2_with fail
              go_roundw
              case rel => exact ⟨i + 1, k2 + 1, _, by go_num, by go_num, by omega, by omega, by omega, HST, HA3, HG3⟩
              case measure => simp [intOf]; omega
          · have hdone := HC.out.done (by rw [HL.out]; omega)
            have HD1 := Lib.hid hdone.1
            have HD2 := Lib.hid hdone.2
            clear hdone HC
            obtain ⟨arr, ha, hs, hcc⟩ := HA.out
            have HAR := Lib.hid ha
            have HCC := Lib.hid hcc
            rw [hAl] at hs
            have HAL := Lib.hid hAl
            have hs2 : i * 6 + (n - i) * 6 ≤ arr.size := by omega
            obtain ⟨cur', hsame, hsz, hclr⟩ := blm_clear wr g arr ha (i * 6) (n - i) (cap - i) hs2
            have hin : i < n := by omega
            have hci : ¬ cap = i := by omega
            have HF : Hid (w.grownBy (wr.setRow g cur') (some g) ∧ RecRow BlmE (wr.setRow g cur') g 48 (compS L)) := by
              refine ⟨gtrans HG.out ⟨rfl, rfl, rfl, by simp, fun k _ hk => setRow_other wr g k cur' (fun e => hk (by rw [e]))⟩, cur', setRow_heap wr g arr cur' _ _ ha, ?_, fun i' j' hi' hj'' => ?_⟩
              · rw [← HD2.out]; omega
              · rw [← HD2.out] at hi'
                have hpl := place_lt (k := 6) hi' hj''
                rw [hsame _ hpl, HCC.out i' j' (by rw [HAL.out]; omega) hj'', rc_eq _ _ (by rw [HAL.out]; omega), rc_eq _ _ (by rw [← HD2.out]; exact hi')]
                have e : (compS L)[i']'(by rw [← HD2.out]; exact hi') = A[i']'(by rw [HAL.out]; omega) := by
                  have : (A.take i)[i']? = (compS L)[i']? := by rw [HD1.out]
                  rw [List.getElem?_take_of_lt hi', List.getElem?_eq_getElem (by rw [HAL.out]; omega), List.getElem?_eq_getElem (by rw [← HD2.out]; exact hi')] at this
                  exact (Option.some.inj this).symm
                rw [e]
            clear ha hs hcc hs2 hsame hsz hAl HAR HCC HAL HA HG
            go_wp2_with (simp only [hclr])
            go_ret
            rw [HOB.out, ← HD2.out]
            refine ⟨_, _, rfl, ⟨HD2.out.symm, fun _ => ⟨g, rfl, hBg, HF.out.2⟩⟩, HF.out.1, (fun e => by cases e), by rw [HD2.out]; exact Nat.le_trans (compS_len L) (by rw [HL.out]; exact hnc)⟩
      · have heq : ∀ wx, Sem.run Try.prog (binOp .eql 48 (.agg #[.int .i64 x.kind, .int .i64 x.serial, .int .i64 x.gate, .int .i64 x.number, .int .i64 x.other, .int .i64 x.count]) (.agg #[.int .i64 y.kind, .int .i64 y.serial, .int .i64 y.gate, .int .i64 y.number, .int .i64 y.other, .int .i64 y.count])) wx = .ok (.bool false) wx := fun wx => by rw [eql_blm]; simp [hxy]
        have HNE2 : Hid (∀ j (hj : j + 1 < L.length), j + 1 < k + 1 → L[j] ≠ L[j + 1]) := fun j hj hjk => by
          by_cases e : j = m
          · subst e
            intro e2
            have h1 := HX.out
            have h2 := HY.out
            have hmk := HMK.out
            subst hmk
            rw [List.getElem?_eq_getElem hj] at h1
            rw [List.getElem?_eq_getElem (by omega)] at h2
            exact hxy ((Option.some.inj h1).symm.trans (e2.symm.trans (Option.some.inj h2)))
          · exact HNE.out j hj (by have := HMK.out; omega)
        clear hxy hkL hmL HX HY HMK HNE
        go_upto_region 6 with fail
        go_region
        go_wp2_with fail
        go_roundw
        case rel => exact ⟨k + 1, by go_num, by omega, hlt, HQ.out.next, HNE2⟩
        case measure => simp [intOf]; omega
    · have hk' : k = n := by omega
      subst hk'
      have HC : Hid (compS L = L) := by
        have := comp_all HNE.out
        rw [← HL.out, List.take_length] at this
        exact this
      go_wp2_with fail
      go_ret
      rw [HOB.out, HC.out]
      exact ⟨_, _, by rw [HL.out]; rfl, ⟨rfl, fun _ => ⟨g, rfl, hBg, HR.out.below HQ.out.below⟩⟩, grown_below HQ.out.below _, (fun e => by cases e), by rw [HL.out]; exact hnc⟩
end Go.Proofs.Ytpmoelkblngamaa
