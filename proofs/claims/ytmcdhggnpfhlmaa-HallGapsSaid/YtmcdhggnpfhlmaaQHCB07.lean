/- hall: Reached, whole; hall: the chapter's examples: plain. -/
import Derived.Test.YtmcdhggnpfhlmaaQHCB06

namespace Go.Proofs.Ytmcdhggnpfhlmaa
open Go.RowKit Go.IntWalk
set_option linter.unusedSimpArgs false
set_option linter.unusedVariables false

theorem bx_none {n j : Nat} : bx (List.replicate n false) j = false := by
  unfold bx
  rw [List.getD_eq_getElem?_getD]
  by_cases h : j < n
  · simp [h]
  · simp [h]

theorem rch_lt {A : List BoxR} {P : List PntR} {j : Nat} (h : Rch A P j) : j < A.length := by cases h <;> assumption

theorem rch_set {A : List BoxR} {P : List PntR} {D : List Bool} (hc : ∀ j, bx D j = true → ClsR A D j) (hd : ∀ j (hj : j < A.length), doorB P A[j] = true → bx D j = true) : ∀ {j : Nat}, Rch A P j → bx D j = true := by
  intro j h
  induction h with
  | door i hi h => exact hd i hi h
  | step i k hi hk _ hm ih => exact hc k ih i hi hk hm

theorem reach_eq {A : List BoxR} {P : List PntR} {D : List Bool} (hl : D.length = A.length) (hs : SndR A P D) (hc : ∀ j, bx D j = true → ClsR A D j) (hd : ∀ j (hj : j < A.length), doorB P A[j] = true → bx D j = true) : reachS A P = D := by
  unfold reachS
  apply List.ext_getElem
  · simp [hl]
  · intro j h1 h2
    simp only [List.getElem_map, List.getElem_range]
    have e : D[j] = bx D j := by simp [bx, List.getD_eq_getElem?_getD, h2]
    rw [e]
    by_cases h : Rch A P j
    · rw [rch_set hc hd h]; simpa using h
    · cases hb : bx D j
      · simpa using h
      · exact absurd (hs j hb) h

theorem reachS_len (A : List BoxR) (P : List PntR) : (reachS A P).length = A.length := by simp [reachS]
theorem bx_reach {A : List BoxR} {P : List PntR} {j : Nat} : bx (reachS A P) j = true ↔ Rch A P j := by
  unfold bx reachS
  rw [List.getD_eq_getElem?_getD]
  by_cases h : j < A.length
  · simp [h]
  · simp [h]
    exact fun hr => h (rch_lt hr)

/-- A variable of one cell is set. -/
theorem set_var {w : World} {g : Nat} {T : TypeId} {u v : Value} {x : Nat × Nat} (h : w.heap[g]? = some (.cells #[u] T x)) : (w.setCell ⟨g, 0, none⟩ v).heap[g]? = some (.cells #[v] T x) := by
  simp [World.setCell, Array.getElem?_modify, h]
theorem free_var {w : World} {g o : Nat} {T : TypeId} {arr : Array Value} (h : w.heap[g]? = some (.cells arr T (0, 0))) : w.frozen? ⟨g, o, none⟩ = false := by
  simp only [World.frozen?, h]
  simp

def levV (l : LevR) : Value := .agg #[.string (bs l.name), .int .i64 l.height, .slice l.ba l.bn l.bc, .slice l.aa l.an l.ac, .slice l.sa l.sn l.sc, .slice l.pa l.pn l.pc, .slice l.da l.dn l.dc, .int .i64 l.at']

set_option maxRecDepth 100000 in
set_option maxHeartbeats 16000000 in
theorem reached_any (w : World) (l : LevR) (hA : Recs BoxE w l.sa l.sn l.aisles) (hD : Recs PntE w l.da l.dn l.doors) (hsn : l.sn ≤ 4000) (hdn : l.dn ≤ 9223372036854775807) :
    Calls Try.prog 14 #[.agg #[.string (bs l.name), .int .i64 l.height, .slice l.ba l.bn l.bc, .slice l.aa l.an l.ac, .slice l.sa l.sn l.sc, .slice l.pa l.pn l.pc, .slice l.da l.dn l.dc, .int .i64 l.at']] w
      fun e w' => (∃ g, e = .returned (.slice (some ⟨g, 0, none⟩) l.sn l.sn) ∧ w.heap.size ≤ g ∧ BoolRow w' g 4 (reachS l.aisles l.doors)) ∧ Below w.heap.size w w' := by
  have HA := Lib.hid hA
  have HD := Lib.hid hD
  have hsl : l.aisles.length = l.sn := hA.1
  have HSL := Lib.hid hsl
  have HDL := Lib.hid hD.1
  clear hA hD hsl
  refine enter_fr (N := 29) [.agg #[.string (bs l.name), .int .i64 l.height, .slice l.ba l.bn l.bc, .slice l.aa l.an l.ac, .slice l.sa l.sn l.sc, .slice l.pa l.pn l.pc, .slice l.da l.dn l.dc, .int .i64 l.at']] (Try.func14) rfl Try.ntmps14 (by rfl) (fun a hF => ?_);replace hF := hF.kp [0] rfl;refine wp_seq_k (fun K hK => ?_);refine region_seq (l := [0, 1]) (by kernel_rfl) ?_;refine seq_one ?_;refine ze1 0 rfl rfl rfl hF rfl rfl ?_;clear hF;refine fun a hF => ?_;refine seq_ck [1] [] hF fun C hC => ?_;clear hF;refine za rfl rfl rfl ?_;refine hC _ (fun a hF => ?_);clear hC C;refine seq_end ?_;replace hF := hF.kp [1] rfl;refine hK _ _ ?_;clear hK;(try clear K)
  have HL : Hid (LevIn (w.alloc (.cells #[.string (bs l.name), .int .i64 l.height, .slice l.ba l.bn l.bc, .slice l.aa l.an l.ac, .slice l.sa l.sn l.sc, .slice l.pa l.pn l.pc, .slice l.da l.dn l.dc, .int .i64 l.at'] 43)) w.heap.size l) := World.alloc_heap_new w _
  have HB1 := Lib.hid (Joins.below_alloc1 w (.cells #[.string (bs l.name), .int .i64 l.height, .slice l.ba l.bn l.bc, .slice l.aa l.an l.ac, .slice l.sa l.sn l.sc, .slice l.pa l.pn l.pc, .slice l.da l.dn l.dc, .int .i64 l.at'] 43))
  generalize w.alloc (.cells #[.string (bs l.name), .int .i64 l.height, .slice l.ba l.bn l.bc, .slice l.aa l.an l.ac, .slice l.sa l.sn l.sc, .slice l.pa l.pn l.pc, .slice l.da l.dn l.dc, .int .i64 l.at'] 43) = w1 at *
  obtain ⟨gl, hgl⟩ : ∃ gl, gl = w.heap.size := ⟨_, rfl⟩
  have HGL := Lib.hid hgl
  rw [← hgl] at hF HL
  clear hgl
  have hgl1 : gl < w1.heap.size := lt_of_block HL.out
  have c4 : w1.cell? ⟨gl, 4, none⟩ = some (.slice l.sa l.sn l.sc) := boxed_cell (j := 4) HL.out rfl
  obtain ⟨arr, hasz, haz, hmk⟩ := make_bools l.sn hsn
  refine wp_seq_k (fun K hK => ?_);refine region_sk [0, 1, 2] [3, 4, 5] hF fun C hC => ?_;clear hF;refine zs1 1 rfl rfl ?_;refine zs1 7 rfl rfl ?_;refine zs1 8 rfl rfl ?_;refine hC _ (fun a hF => ?_);clear hC C;refine seq_one ?_;refine ze1 9 rfl rfl rfl hF rfl rfl ?_;clear hF;refine fun a hF => ?_
  have HR2 : Hid (BoolRow (w1.alloc (.cells arr 4)) w1.heap.size 4 (List.replicate l.sn false)) := BoolRow.made rfl hasz haz
  have HB2 := Lib.hid (Joins.below_alloc1 w1 (.cells arr 4))
  clear hmk hasz haz c4
  generalize w1.alloc (.cells arr 4) = w2 at *
  obtain ⟨gb, hgb⟩ : ∃ gb, gb = w1.heap.size := ⟨_, rfl⟩
  rw [← hgb] at hF HR2
  have HGB := Lib.hid hgb
  clear hgb
  refine seq_one ?_;refine ze0 rfl rfl rfl hF rfl ?_;clear hF;refine fun a hF => ?_;refine seq_one ?_;refine zu2 3 10 rfl rfl hF rfl rfl rfl ?_;clear hF;refine fun a hF => ?_;refine hK _ _ ?_;clear hK;(try clear K)
  have HO : (w2.alloc (.cells #[.slice (some ⟨gb, 0, none⟩) l.sn l.sn] 49)).heap[w2.heap.size]? = some (.cells #[.slice (some ⟨gb, 0, none⟩) l.sn l.sn] 49 (0, 0)) := World.alloc_heap_new w2 _
  have HO := Lib.hid HO
  have HB3 := Lib.hid (Joins.below_alloc1 w2 (.cells #[.slice (some ⟨gb, 0, none⟩) l.sn l.sn] 49))
  generalize w2.alloc (.cells #[.slice (some ⟨gb, 0, none⟩) l.sn l.sn] 49) = w3 at *
  obtain ⟨go, hgo⟩ : ∃ go, go = w2.heap.size := ⟨_, rfl⟩
  rw [← hgo] at hF HO
  have HGO := Lib.hid hgo
  clear hgo
  refine wp_seq_k (fun K hK => ?_);refine region_seq (l := [0]) (by kernel_rfl) ?_;refine seq_one ?_;refine ze0 rfl rfl rfl hF rfl ?_;clear hF;refine fun a hF => ?_;refine seq_end ?_;replace hF := hF.kp [1, 3, 4] rfl
  have HN : Hid ((w3.alloc (.cells #[.nilFunc] 77)).heap[w3.heap.size]? = some (.cells #[.nilFunc] 77 (0, 0))) := World.alloc_heap_new w3 _
  have HB4 := Lib.hid (Joins.below_alloc1 w3 (.cells #[.nilFunc] 77))
  generalize w3.alloc (.cells #[.nilFunc] 77) = w4 at *
  obtain ⟨ge, hge⟩ : ∃ ge, ge = w3.heap.size := ⟨_, rfl⟩
  rw [← hge] at hF HN
  have HGE := Lib.hid hge
  clear hge
  refine hK _ _ ?_;clear hK;(try clear K);refine wp_seq_k (fun K hK => ?_)
  have c0 : w4.cell? ⟨ge, 0, none⟩ = some .nilFunc := boxed_cell (j := 0) HN.out rfl
  have c1 := free_var (o := 0) HN.out
  refine region_sk [0] [1] hF fun C hC => ?_;clear hF;refine zs3 1 3 4 rfl rfl rfl rfl ?_;refine hC _ (fun a hF => ?_);clear hC C;refine seq_one ?_;refine zu2 4 11 rfl rfl hF rfl rfl rfl ?_;clear hF;refine fun a hF => ?_;refine seq_end ?_;replace hF := hF.kp [1, 3, 4] rfl;refine hK _ _ ?_;clear hK;(try clear K)
  clear c0 c1
  have HU5 := Lib.hid (Upd.setCell (S := fun b => b = ge) w4 ge 0 (.func (.func 32) #[] #[.pointer (some ⟨go, 0, none⟩), .pointer (some ⟨gl, 0, none⟩), .pointer (some ⟨ge, 0, none⟩)]) rfl)
  have HSV := Lib.hid (set_var (v := .func (.func 32) #[] #[.pointer (some ⟨go, 0, none⟩), .pointer (some ⟨gl, 0, none⟩), .pointer (some ⟨ge, 0, none⟩)]) HN.out)
  generalize w4.setCell ⟨ge, 0, none⟩ (.func (.func 32) #[] #[.pointer (some ⟨go, 0, none⟩), .pointer (some ⟨gl, 0, none⟩), .pointer (some ⟨ge, 0, none⟩)]) = w5 at *
  have HE : Hid (ReEnv w l gl go ge gb w5 (List.replicate l.sn false)) := by
    have h34 := HB3.out.trans (HB4.out.mono HB3.out.size)
    have h14 := HB2.out.trans (h34.mono HB2.out.size)
    have h04 := HB1.out.trans (h14.mono HB1.out.size)
    have hl4 : LevIn w4 gl l := (h14.block gl hgl1).trans HL.out
    have ho4 := (HB4.out.block go (lt_of_block HO.out)).trans HO.out
    have hr4 := HR2.out.of_heap (h34.block gb HR2.out.lt)
    obtain ⟨ar, er, er2⟩ := hr4
    refine ⟨Upd.below h04 h04.size HU5.out (fun i hi => ?_), (HU5.out.block gl (lt_of_block hl4) (type_ne hl4 HN.out (by decide))).trans hl4, (HU5.out.block go (lt_of_block ho4) (type_ne ho4 HN.out (by decide))).trans ho4, HSV.out,
      ⟨ar, (HU5.out.block gb (lt_of_block er) (type_ne er HN.out (by decide))).trans er, er2⟩, by simp, by rw [HGB.out]; exact HB1.out.size⟩
    rw [hi, HGE.out]
    have := HB1.out.size
    have := HB2.out.size
    have := HB3.out.size
    omega
  clear HU5 HSV HN HB1 HB2 HB3 HB4 HL HO HR2 HGE HGO HGL hgl1
  refine wp_seq_k (fun KA hKA => ?_);refine wp_seq_k (fun K hK => ?_)
  have c4 : w5.cell? ⟨gl, 4, none⟩ = some (.slice l.sa l.sn l.sc) := boxed_cell (j := 4) HE.out.lev rfl
  refine region_sk [0, 1, 2, 3] [] hF fun C hC => ?_;clear hF;refine zs1 1 rfl rfl ?_;refine zs1 12 rfl rfl ?_;refine zs1 13 rfl rfl ?_;refine zm rfl rfl rfl ?_;refine hC _ (fun a hF => ?_);clear hC C;refine seq_end ?_;replace hF := hF.kp [1, 3, 4, 13, 14, 15] rfl;refine hK _ _ ?_;clear hK;(try clear K)
  refine wp_block ?_
  refine loop_fr (fun n a' w' => ∃ (i : Nat) (D : List Bool), i + n = l.sn ∧ FrF 29 [] [(1, .pointer (some ⟨gl, 0, none⟩)), (3, .pointer (some ⟨go, 0, none⟩)), (4, .pointer (some ⟨ge, 0, none⟩)), (13, .slice l.sa l.sn l.sc), (14, .int .i64 l.sn), (15, .int .i64 i)] a' ∧ Hid (ReEnv w l gl go ge gb w' D) ∧ Hid (SndR l.aisles l.doors D) ∧ Hid (∀ j, bx D j = true → ClsR l.aisles D j) ∧ Hid (∀ j (hj : j < l.aisles.length), j < i → doorB l.doors l.aisles[j] = true → bx D j = true)) l.sn ⟨0, _, by omega, hF, HE, fun j h => absurd h (by rw [bx_none]; decide), fun j h => absurd h (by rw [bx_none]; decide), fun j hj h => absurd h (Nat.not_lt_zero _)⟩ ?_
  clear hF HE c4
  rintro rk a wr ⟨i, D, hik, hF, HE, HS, HC, HDR⟩ KB hKB
  refine wp_seq_k (fun K hK => ?_)
  by_cases hlt : i < l.sn
  rotate_left
  · refine region_sk [0] [] hF fun C hC => ?_;clear hF;refine zs2 14 15 rfl rfl rfl ?_;refine hC _ (fun a hF => ?_);clear hC C;refine seq_end ?_;replace hF := hF.kp [1, 3, 4, 13, 14, 15, 16] rfl;refine hK _ _ ?_;clear hK;(try clear K);refine wp_seq_k (fun K hK => ?_)
    refine cond_no hF rfl ?_
    refine wp_exit ?_
    refine hKA _ _ ?_;clear hKA;(try clear KA);refine wp_seq_k (fun K hK => ?_)
    have c3 : wr.cell? ⟨go, 0, none⟩ = some (.slice (some ⟨gb, 0, none⟩) l.sn l.sn) := boxed_cell (j := 0) HE.out.out rfl
    refine region_sk [0, 1] [] hF fun C hC => ?_;clear hF;refine zs1 3 rfl rfl ?_;refine za rfl rfl rfl ?_;refine hC _ (fun a hF => ?_);clear hC C;refine seq_end ?_;replace hF := hF.kp [2] rfl;refine hK _ _ ?_;clear hK;(try clear K);refine wp_ret ?_;(try simp only [then_ret, block_ret, goto_ret]);refine ret_fr (fn := Try.f14) (rs := [.tmp 2]) rfl [_] hF ⟨rfl, trivial⟩ ?_
    refine ⟨⟨gb, rfl, HE.out.base, ?_⟩, HE.out.below⟩
    rw [reach_eq (by rw [HE.out.len, HSL.out]) HS.out HC.out fun j hj h => HDR.out j hj (by have := HSL.out; omega) h]
    exact HE.out.row
  refine region_sk [0] [] hF fun C hC => ?_;clear hF;refine zs2 14 15 rfl rfl rfl ?_;refine hC _ (fun a hF => ?_);clear hC C;refine seq_end ?_;replace hF := hF.kp [1, 3, 4, 13, 14, 15, 16] rfl;refine hK _ _ ?_;clear hK;(try clear K);refine wp_seq_k (fun K hK => ?_)
  refine cond_yes hF rfl ?_
  refine wp_skip ?_
  refine hK _ _ ?_;clear hK;(try clear K);replace hF := hF.kp [1, 3, 4, 13, 14, 15] rfl
  clear hKA
  have hil : i < l.aisles.length := by rw [HSL.out]; exact hlt
  have hki : (i : Int) < l.sn := by omega
  obtain ⟨b, o, hsa, d0, d1, d2, d3⟩ := box_at (HA.out.below HE.out.below) i hlt hil
  refine seq_cut (fun a' w' => ∃ D, FrF 29 [] [(1, .pointer (some ⟨gl, 0, none⟩)), (3, .pointer (some ⟨go, 0, none⟩)), (4, .pointer (some ⟨ge, 0, none⟩)), (13, .slice l.sa l.sn l.sc), (14, .int .i64 l.sn), (15, .int .i64 i)] a' ∧ Hid (ReEnv w l gl go ge gb w' D) ∧ Hid (SndR l.aisles l.doors D) ∧ Hid (∀ j, bx D j = true → ClsR l.aisles D j) ∧ Hid (∀ j (hj : j < l.aisles.length), j < i + 1 → doorB l.doors l.aisles[j] = true → bx D j = true)) (fun KC hKC => ?_) ?_
  rotate_left
  · clear hF HE HS HC HDR d0 d1 d2 d3 hsa
    rintro a w' ⟨D, hF, HE, HS, HC, HDR⟩
    have hws : IntKind.i64.wrap ((i : Int) + 1) = ((i + 1 : Nat) : Int) := wrap_succ (by omega)
    refine region_sk [0, 1] [] hF fun C hC => ?_;clear hF;refine zs1 15 rfl rfl ?_;refine zm rfl rfl rfl ?_;refine hC _ (fun a hF => ?_);clear hC C;refine seq_end ?_;replace hF := hF.kp [1, 3, 4, 13, 14, 15] rfl
    exact hKB (l.sn - (i + 1)) _ _ (by omega) ⟨i + 1, D, by omega, hF, HE, HS, HC, HDR⟩
  clear hKB hik
  refine wp_block ?_
  refine wp_seq_k (fun K hK => ?_);refine region_sk [0, 1, 2] [3, 4, 5] hF fun C hC => ?_;clear hF;refine zm rfl rfl rfl ?_;refine zs2 13 15 rfl rfl rfl ?_;refine zs1 18 rfl rfl ?_;refine hC _ (fun a hF => ?_);clear hC C;refine seq_one ?_;refine ze0 rfl rfl rfl hF rfl ?_;clear hF;refine fun a hF => ?_;refine seq_ck [4] [5] hF fun C hC => ?_;clear hF;refine za rfl rfl rfl ?_;refine hC _ (fun a hF => ?_);clear hC C;refine seq_one ?_;refine zu2 6 19 rfl rfl hF rfl rfl rfl ?_;clear hF;refine fun a hF => ?_;refine seq_end ?_;replace hF := hF.kp [1, 3, 4, 5, 6, 13, 14, 15] rfl;refine hK _ _ ?_;clear hK;(try clear K)
  have HX : Hid (BoxIn (wr.alloc (.cells #[.int .i64 l.aisles[i].x, .int .i64 l.aisles[i].y, .int .i64 l.aisles[i].x2, .int .i64 l.aisles[i].y2] 46)) wr.heap.size l.aisles[i]) := World.alloc_heap_new wr _
  have HBa := Lib.hid (Joins.below_alloc1 wr (.cells #[.int .i64 l.aisles[i].x, .int .i64 l.aisles[i].y, .int .i64 l.aisles[i].x2, .int .i64 l.aisles[i].y2] 46))
  have HE2 := Lib.hid (HE.out.down HBa.out)
  clear HE d0 d1 d2 d3 HBa
  generalize wr.alloc (.cells #[.int .i64 l.aisles[i].x, .int .i64 l.aisles[i].y, .int .i64 l.aisles[i].x2, .int .i64 l.aisles[i].y2] 46) = w2 at *
  generalize wr.heap.size = gx at *
  have e6 : w2.cell? ⟨gl, 6, none⟩ = some (.slice l.da l.dn l.dc) := boxed_cell (j := 6) HE2.out.lev rfl
  have HRD := Lib.hid (fun h => Rch.door (D := l.doors) i hil h)
  have HDN : Hid (doorB l.doors l.aisles[i] = false → ∀ j (hj : j < l.aisles.length), j < i + 1 → doorB l.doors l.aisles[j] = true → bx D j = true) := fun h j hj hji hd => by
    by_cases e : j = i
    · subst e; rw [h] at hd; cases hd
    · exact HDR.out j hj (by omega) hd
  have HDY : Hid (∀ D2, (∀ j, bx D j = true → bx D2 j = true) → bx D2 i = true → ∀ j (hj : j < l.aisles.length), j < i + 1 → doorB l.doors l.aisles[j] = true → bx D2 j = true) := fun D2 hm h0 j hj hji hd => by
    by_cases e : j = i
    · subst e; exact h0
    · exact hm j (HDR.out j hj (by omega) hd)
  generalize l.aisles[i] = ai at *
  have HCF := Lib.hid (contains_pnt w2 l.da l.dn l.dc l.doors (HD.out.below HE2.out.below) hdn 35 [.pointer (some ⟨gx, 0, none⟩)] (fun p => insideB ai p.x p.y) (by kernel_rfl) (fun wx hb j hj => reached2_any wx l.doors[j] gx ai (HX.out.down hb)))
  have HDB : Hid ((l.doors.any fun p => insideB ai p.x p.y) = doorB l.doors ai) := rfl
  generalize (l.doors.any fun p => insideB ai p.x p.y) = db at *
  refine wp_seq_k (fun K hK => ?_);refine region_sk [0, 1, 2] [3] hF fun C hC => ?_;clear hF;refine zs1 1 rfl rfl ?_;refine zs1 20 rfl rfl ?_;refine zs1 6 rfl rfl ?_;refine hC _ (fun a hF => ?_);clear hC C;refine seq_one ?_;refine op_call [_, _] rfl rfl hF rfl (by kernel_rfl) ⟨rfl, rfl, trivial⟩ (fun K hK => ?_);clear hF
  refine HCF.out.mono ?_
  rintro e w3 ⟨rfl, hb3⟩
  have HE3 := Lib.hid (HE2.out.down hb3)
  clear HE2 hb3 e6 HCF HX
  cases db
  · refine hK _ _ (fun a hF => ?_);clear hK K;refine seq_end ?_;replace hF := hF.kp [1, 3, 4, 5, 13, 14, 15, 23] rfl;refine hK _ _ ?_;clear hK;(try clear K)
    refine cond_no hF rfl ?_
    refine wp_skip ?_
    exact hKC _ _ ⟨D, hF.sub ⟨rfl, rfl, rfl, rfl, rfl, rfl, trivial⟩, HE3, HS, HC, HDN.out HDB.out.symm⟩
  refine hK _ _ (fun a hF => ?_);clear hK K;refine seq_end ?_;replace hF := hF.kp [1, 3, 4, 5, 13, 14, 15, 23] rfl;refine hK _ _ ?_;clear hK;(try clear K)
  refine cond_yes hF rfl ?_
  have c5 : w3.cell? ⟨ge, 0, none⟩ = some (.func (.func 32) #[] #[.pointer (some ⟨go, 0, none⟩), .pointer (some ⟨gl, 0, none⟩), .pointer (some ⟨ge, 0, none⟩)]) := boxed_cell (j := 0) HE3.out.ent rfl
  refine region_sk [0, 1] [2] hF fun C hC => ?_;clear hF;refine zs1 4 rfl rfl ?_;refine zm rfl rfl rfl ?_;refine hC _ (fun a hF => ?_);clear hC C;refine seq_one ?_;refine op_callv [_] _ _ rfl rfl hF rfl rfl (by first | assumption | kernel_rfl) ⟨rfl, trivial⟩ (fun K hK => ?_);clear hF
  refine (enter_any w l gl go ge gb HA.out hsn _ w3 D i (Nat.le_refl _) HE3.out hil HS.out (HRD.out HDB.out.symm)).mono ?_
  rintro e w4 ⟨rfl, D3, hE5, hU5, hP⟩
  refine hK _ _ (fun a hF => ?_);clear hK K;refine seq_end ?_;replace hF := hF.kp [1, 3, 4, 13, 14, 15] rfl
  refine hKC _ _ ⟨D3, hF, hE5, hP.snd, fun j hj => ?_, HDY.out D3 hP.mono hP.hit⟩
  rcases hP.cls j hj with h | h
  · exact (HC.out j h).mono hP.mono
  · exact h
end Go.Proofs.Ytmcdhggnpfhlmaa

namespace Go.Proofs.Ytmcdhggnpfhlmaa
open Go.RowKit Go.IntWalk
set_option linter.unusedSimpArgs false
set_option linter.unusedVariables false

def exRow (ma : Option Addr) (mn mc : Nat) (ms : List MarkR) : RowR := ⟨[97], 3, 5, 1, 3, 2, ma, mn, mc, ms, 7⟩
def exRow2 : RowR := ⟨[98], 5, 5, 1, 1, 2, none, 0, 0, [], 9⟩
def exLev (rows : List RowR) (ra : Option Addr) (rn rc : Nat) (g2 g3 : Nat) (da : Option Addr) (dn dc : Nat) (doors : List PntR) : LevR :=
  ⟨[108], 0, some ⟨g2, 0, none⟩, 1, 1, [⟨[98], ra, rn, rc, rows, 0⟩], none, 0, 0, [], some ⟨g3, 0, none⟩, 1, 1, [⟨0, 0, 1, 9⟩], none, 0, 0, [], da, dn, dc, doors, 0⟩
def exHall (l : LevR) (g5 : Nat) : HallR := ⟨[], ⟨0, 0⟩, some ⟨g5, 0, none⟩, 1, 1, [l]⟩

theorem reach_one : reachS [⟨0, 0, 1, 9⟩] [⟨0, 0⟩] = [true] := by
  have h : Rch [⟨0, 0, 1, 9⟩] [⟨0, 0⟩] 0 := .door 0 (by decide) (by decide)
  unfold reachS
  simp [h]
theorem no_rch {A : List BoxR} : ∀ {i : Nat}, Rch A [] i → False := by
  intro i h
  induction h with
  | door i h hd => simp [doorB] at hd
  | step i k hi hk h hm ih => exact ih
theorem reach_off : reachS [⟨0, 0, 1, 9⟩] [] = [false] := by
  have h : ¬ Rch [⟨0, 0, 1, 9⟩] [] 0 := no_rch
  unfold reachS
  simp [h]

theorem build_ok {h : HallR} {l : LevR} {re : List Bool} (hl : h.levels = [l]) (hs : singleS h = []) (hst : (coordB h.stage.x && coordB h.stage.y) = true) (hc : decide (4000 < countS h) = false) (hr : reachS l.aisles l.doors = re) {F : List FaultR} (hf : severalR re l = F) : faultsS h = F := by
  unfold faultsS
  rw [if_neg (fun e => e hs), if_neg (fun e => e hst), if_neg (by simpa using hc), hl]
  show [l].flatMap severalS = F
  have : [l].flatMap severalS = severalS l := by simp
  rw [this]
  unfold severalS
  rw [hr, hf]

section
variable (ma ra : Option Addr) (mn mc rn rc g2 g3 g4 g5 dn dc : Nat) (da : Option Addr)
set_option maxRecDepth 100000
theorem ex_a : buildS (exHall (exLev [exRow ma mn mc []] ra rn rc g2 g3 da dn dc [⟨0, 0⟩]) g5) = ([⟨0, 0, 0, 0, 1, 3, 5, 0, -1⟩, ⟨0, 0, 0, 0, 2, 5, 5, 0, -1⟩, ⟨0, 0, 0, 0, 3, 7, 5, 0, -1⟩], []) := by
  have hp : placesS (exHall (exLev [exRow ma mn mc []] ra rn rc g2 g3 da dn dc [⟨0, 0⟩]) g5) = [⟨0, 0, 0, 0, 1, 3, 5, 0, -1⟩, ⟨0, 0, 0, 0, 2, 5, 5, 0, -1⟩, ⟨0, 0, 0, 0, 3, 7, 5, 0, -1⟩] := by kernel_rfl
  have h := build_ok (h := exHall (exLev [exRow ma mn mc []] ra rn rc g2 g3 da dn dc [⟨0, 0⟩]) g5) rfl (by kernel_rfl) (by kernel_rfl) (by kernel_rfl) reach_one (F := []) (by kernel_rfl)
  unfold buildS
  rw [if_pos h, hp]
theorem ex_b : buildS (exHall (exLev [exRow ma mn mc [⟨1, 2, 0⟩]] ra rn rc g2 g3 da dn dc [⟨0, 0⟩]) g5) = ([⟨0, 0, 0, 0, 1, 3, 5, 0, -1⟩, ⟨0, 0, 0, 0, 3, 7, 5, 0, -1⟩], []) := by
  have hp : placesS (exHall (exLev [exRow ma mn mc [⟨1, 2, 0⟩]] ra rn rc g2 g3 da dn dc [⟨0, 0⟩]) g5) = [⟨0, 0, 0, 0, 1, 3, 5, 0, -1⟩, ⟨0, 0, 0, 0, 3, 7, 5, 0, -1⟩] := by kernel_rfl
  have h := build_ok (h := exHall (exLev [exRow ma mn mc [⟨1, 2, 0⟩]] ra rn rc g2 g3 da dn dc [⟨0, 0⟩]) g5) rfl (by kernel_rfl) (by kernel_rfl) (by kernel_rfl) reach_one (F := []) (by kernel_rfl)
  unfold buildS
  rw [if_pos h, hp]
theorem ex_c : buildS (exHall (exLev [exRow ma mn mc [⟨2, 1, 0⟩, ⟨4, 2, 1⟩]] ra rn rc g2 g3 da dn dc [⟨0, 0⟩]) g5) = ([⟨1, 0, 0, 0, 1, 3, 5, 0, 1⟩, ⟨2, 0, 0, 0, 2, 5, 5, 0, 0⟩, ⟨0, 0, 0, 0, 3, 7, 5, 0, -1⟩], []) := by
  have hp : placesS (exHall (exLev [exRow ma mn mc [⟨2, 1, 0⟩, ⟨4, 2, 1⟩]] ra rn rc g2 g3 da dn dc [⟨0, 0⟩]) g5) = [⟨1, 0, 0, 0, 1, 3, 5, 0, 1⟩, ⟨2, 0, 0, 0, 2, 5, 5, 0, 0⟩, ⟨0, 0, 0, 0, 3, 7, 5, 0, -1⟩] := by kernel_rfl
  have h := build_ok (h := exHall (exLev [exRow ma mn mc [⟨2, 1, 0⟩, ⟨4, 2, 1⟩]] ra rn rc g2 g3 da dn dc [⟨0, 0⟩]) g5) rfl (by kernel_rfl) (by kernel_rfl) (by kernel_rfl) reach_one (F := []) (by kernel_rfl)
  unfold buildS
  rw [if_pos h, hp]
theorem ex_h : buildS (exHall (exLev [exRow ma mn mc [], exRow2] ra rn rc g2 g3 da dn dc [⟨0, 0⟩]) g5) = ([], [⟨13, 9, 7⟩, ⟨14, 9, -1⟩]) := by
  have h := build_ok (h := exHall (exLev [exRow ma mn mc [], exRow2] ra rn rc g2 g3 da dn dc [⟨0, 0⟩]) g5) rfl (by kernel_rfl) (by kernel_rfl) (by kernel_rfl) reach_one (F := [⟨13, 9, 7⟩, ⟨14, 9, -1⟩]) (by kernel_rfl)
  unfold buildS
  rw [h, if_neg (by simp)]
theorem ex_i : buildS (exHall (exLev [exRow ma mn mc []] ra rn rc g2 g3 da dn dc []) g5) = ([], [⟨14, 7, -1⟩]) := by
  have h := build_ok (h := exHall (exLev [exRow ma mn mc []] ra rn rc g2 g3 da dn dc []) g5) rfl (by kernel_rfl) (by kernel_rfl) (by kernel_rfl) reach_off (F := [⟨14, 7, -1⟩]) (by kernel_rfl)
  unfold buildS
  rw [h, if_neg (by simp)]
theorem ex_j : buildS (exHall (exLev [exRow ma mn mc [⟨4, 2, 1⟩]] ra rn rc g2 g3 da dn dc [⟨0, 0⟩]) g5) = ([], [⟨11, 7, -1⟩]) := by
  have hs : singleS (exHall (exLev [exRow ma mn mc [⟨4, 2, 1⟩]] ra rn rc g2 g3 da dn dc [⟨0, 0⟩]) g5) = [⟨11, 7, -1⟩] := by kernel_rfl
  have h : faultsS (exHall (exLev [exRow ma mn mc [⟨4, 2, 1⟩]] ra rn rc g2 g3 da dn dc [⟨0, 0⟩]) g5) = [⟨11, 7, -1⟩] := by
    unfold faultsS
    rw [if_pos (by rw [hs]; simp), hs]
  unfold buildS
  rw [h, if_neg (by simp)]
end
end Go.Proofs.Ytmcdhggnpfhlmaa
