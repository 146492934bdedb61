/- hall: the closures of several. -/
import Derived.Test.YtmcdhggnpfhlmaaQHCB07
import Derived.Test.YtmcdhggnpfhlmaaQHCB17

namespace Go.Proofs.Ytmcdhggnpfhlmaa
open Go.RowKit Go.IntWalk
set_option linter.unusedSimpArgs false
set_option linter.unusedVariables false

set_option maxRecDepth 100000 in
set_option maxHeartbeats 8000000 in
theorem hit_any (w : World) (b : BoxR) (gx gr : Nat) (x y : Int) (h1 : w.cell? ⟨gx, 0, none⟩ = some (.int .i64 x)) (h2 : w.cell? ⟨gr, 2, none⟩ = some (.int .i64 y)) :
    Calls Try.prog 58 #[.agg #[.int .i64 b.x, .int .i64 b.y, .int .i64 b.x2, .int .i64 b.y2], .pointer (some ⟨gx, 0, none⟩), .pointer (some ⟨gr, 0, none⟩)] w fun e w' => e = .returned (.bool (insideB b x y)) ∧ Below w.heap.size w w' := by
  refine enter_fr (N := 10) [.agg #[.int .i64 b.x, .int .i64 b.y, .int .i64 b.x2, .int .i64 b.y2], .pointer (some ⟨gx, 0, none⟩), .pointer (some ⟨gr, 0, none⟩)] (Try.func58) rfl Try.ntmps58 (by rfl) (fun a hF => ?_);replace hF := hF.kp [0, 1, 2] rfl;refine wp_seq_k (fun K hK => ?_);refine region_seq (l := [0, 1]) (by kernel_rfl) ?_;refine seq_one ?_;refine ze1 0 rfl rfl rfl hF rfl rfl ?_;clear hF;refine fun a hF => ?_;refine seq_ck [1] [] hF fun C hC => ?_;clear hF;refine za rfl rfl rfl ?_;refine hC _ (fun a hF => ?_);clear hC C;refine seq_end ?_;replace hF := hF.kp [1, 2, 3] rfl;refine hK _ _ ?_;clear hK;(try clear K)
  have HB := Lib.hid (Joins.below_alloc1 w (.cells #[.int .i64 b.x, .int .i64 b.y, .int .i64 b.x2, .int .i64 b.y2] 46))
  have HX : Hid (BoxIn (w.alloc (.cells #[.int .i64 b.x, .int .i64 b.y, .int .i64 b.x2, .int .i64 b.y2] 46)) w.heap.size b) := World.alloc_heap_new w _
  have d1 := Below.cell_of HB.out h1
  have d2 := Below.cell_of HB.out h2
  clear h1 h2
  generalize w.alloc (.cells #[.int .i64 b.x, .int .i64 b.y, .int .i64 b.x2, .int .i64 b.y2] 46) = w1 at *
  obtain ⟨g, hg⟩ : ∃ g, g = w.heap.size := ⟨_, rfl⟩
  rw [← hg] at hF HX
  clear hg
  obtain ⟨c0, c1, c2, c3⟩ := HX.out.cells
  refine wp_seq_k (fun K hK => ?_);refine region_sk [0, 1, 2, 3] [4, 5] hF fun C hC => ?_;clear hF;refine zs1 3 rfl rfl ?_;refine zs1 1 rfl rfl ?_;refine zs1 2 rfl rfl ?_;refine zs1 7 rfl rfl ?_;refine hC _ (fun a hF => ?_);clear hC C;refine seq_one ?_;refine op_call [_, _, _] rfl rfl hF rfl (by kernel_rfl) ⟨rfl, rfl, rfl, trivial⟩ (fun K hK => ?_);clear hF
  refine (inside_any w1 b x y).mono ?_
  rintro e w2 ⟨rfl, hb⟩
  refine hK _ _ (fun a hF => ?_);clear hK K;refine seq_ck [5] [] hF fun C hC => ?_;clear hF;refine za rfl rfl rfl ?_;refine hC _ (fun a hF => ?_);clear hC C;refine seq_end ?_;replace hF := hF.kp [4] rfl;refine hK _ _ ?_;clear hK;(try clear K);refine wp_ret ?_;(try simp only [then_ret, block_ret, goto_ret]);refine ret_fr (fn := Try.f58) (rs := [.tmp 4]) rfl [_] hF ⟨rfl, trivial⟩ ?_
  exact ⟨rfl, HB.out.trans (hb.mono HB.out.size)⟩

set_option maxRecDepth 100000 in
set_option maxHeartbeats 8000000 in
theorem beside_any (w : World) (b : BoxR) (g1 gr g2 : Nat) (x1 x2 y : Int) (h1 : w.cell? ⟨g1, 0, none⟩ = some (.int .i64 x1)) (h2 : w.cell? ⟨gr, 2, none⟩ = some (.int .i64 y)) (h3 : w.cell? ⟨g2, 0, none⟩ = some (.int .i64 x2)) :
    Calls Try.prog 61 #[.agg #[.int .i64 b.x, .int .i64 b.y, .int .i64 b.x2, .int .i64 b.y2], .pointer (some ⟨g1, 0, none⟩), .pointer (some ⟨gr, 0, none⟩), .pointer (some ⟨g2, 0, none⟩)] w fun e w' => e = .returned (.bool (insideB b x1 y || insideB b x2 y)) ∧ Below w.heap.size w w' := by
  refine enter_fr (N := 18) [.agg #[.int .i64 b.x, .int .i64 b.y, .int .i64 b.x2, .int .i64 b.y2], .pointer (some ⟨g1, 0, none⟩), .pointer (some ⟨gr, 0, none⟩), .pointer (some ⟨g2, 0, none⟩)] (Try.func61) rfl Try.ntmps61 (by rfl) (fun a hF => ?_);replace hF := hF.kp [0, 1, 2, 3] rfl;refine wp_seq_k (fun K hK => ?_);refine region_seq (l := [0, 1]) (by kernel_rfl) ?_;refine seq_one ?_;refine ze1 0 rfl rfl rfl hF rfl rfl ?_;clear hF;refine fun a hF => ?_;refine seq_ck [1] [] hF fun C hC => ?_;clear hF;refine za rfl rfl rfl ?_;refine hC _ (fun a hF => ?_);clear hC C;refine seq_end ?_;replace hF := hF.kp [1, 2, 3, 4] rfl;refine hK _ _ ?_;clear hK;(try clear K)
  have HB := Lib.hid (Joins.below_alloc1 w (.cells #[.int .i64 b.x, .int .i64 b.y, .int .i64 b.x2, .int .i64 b.y2] 46))
  have HX : Hid (BoxIn (w.alloc (.cells #[.int .i64 b.x, .int .i64 b.y, .int .i64 b.x2, .int .i64 b.y2] 46)) w.heap.size b) := World.alloc_heap_new w _
  have d1 := Below.cell_of HB.out h1
  have d2 := Below.cell_of HB.out h2
  have d3 := Below.cell_of HB.out h3
  clear h1 h2 h3
  generalize w.alloc (.cells #[.int .i64 b.x, .int .i64 b.y, .int .i64 b.x2, .int .i64 b.y2] 46) = w1 at *
  obtain ⟨g, hg⟩ : ∃ g, g = w.heap.size := ⟨_, rfl⟩
  rw [← hg] at hF HX
  clear hg
  obtain ⟨c0, c1, c2, c3⟩ := HX.out.cells
  refine wp_seq_k (fun K hK => ?_);refine region_sk [0, 1, 2, 3] [4, 5, 6, 7, 8, 9, 10, 11, 12] hF fun C hC => ?_;clear hF;refine zs1 4 rfl rfl ?_;refine zs1 1 rfl rfl ?_;refine zs1 2 rfl rfl ?_;refine zs1 8 rfl rfl ?_;refine hC _ (fun a hF => ?_);clear hC C;refine seq_one ?_;refine op_call [_, _, _] rfl rfl hF rfl (by kernel_rfl) ⟨rfl, rfl, rfl, trivial⟩ (fun K hK => ?_);clear hF
  refine (inside_any w1 b x1 y).mono ?_
  rintro e w2 ⟨rfl, hb⟩
  have HB2 : Hid (Below w.heap.size w w2) := HB.out.trans (hb.mono HB.out.size)
  have HX2 := Lib.hid (HX.out.down hb)
  have e1 := Below.cell_of hb d1
  have e2 := Below.cell_of hb d2
  have e3 := Below.cell_of hb d3
  clear c0 c1 c2 c3 d1 d2 d3 HB HX hb
  obtain ⟨c0, c1, c2, c3⟩ := HX2.out.cells
  generalize insideB b x1 y = y1 at *
  cases y1
  · refine hK _ _ (fun a hF => ?_);clear hK K;refine seq_ck [5, 6, 7, 8, 9] [10, 11, 12] hF fun C hC => ?_;clear hF;refine zm rfl rfl rfl ?_;refine zs1 4 rfl rfl ?_;refine zs1 3 rfl rfl ?_;refine zs1 2 rfl rfl ?_;refine zs1 14 rfl rfl ?_;refine hC _ (fun a hF => ?_);clear hC C;refine seq_one ?_;refine op_call [_, _, _] rfl rfl hF rfl (by kernel_rfl) ⟨rfl, rfl, rfl, trivial⟩ (fun K hK => ?_);clear hF
    refine (inside_any w2 b x2 y).mono ?_
    rintro e w3 ⟨rfl, hb⟩
    refine hK _ _ (fun a hF => ?_);clear hK K;refine seq_ck [11, 12] [] hF fun C hC => ?_;clear hF;refine zs2 11 16 rfl rfl rfl ?_;refine za rfl rfl rfl ?_;refine hC _ (fun a hF => ?_);clear hC C;refine seq_end ?_;replace hF := hF.kp [5] rfl;refine hK _ _ ?_;clear hK;(try clear K);refine wp_ret ?_;(try simp only [then_ret, block_ret, goto_ret]);refine ret_fr (fn := Try.f61) (rs := [.tmp 5]) rfl [_] hF ⟨rfl, trivial⟩ ?_
    exact ⟨rfl, HB2.out.trans (hb.mono HB2.out.size)⟩
  · refine hK _ _ (fun a hF => ?_);clear hK K;refine seq_ck [5, 6, 7, 8, 9, 10, 11, 12] [] hF fun C hC => ?_;clear hF;refine zm rfl rfl rfl ?_;refine zx rfl ?_;refine zx rfl ?_;refine zx rfl ?_;refine zx rfl ?_;refine zx rfl ?_;refine zs2 11 16 rfl rfl rfl ?_;refine za rfl rfl rfl ?_;refine hC _ (fun a hF => ?_);clear hC C;refine seq_end ?_;replace hF := hF.kp [5] rfl;refine hK _ _ ?_;clear hK;(try clear K);refine wp_ret ?_;(try simp only [then_ret, block_ret, goto_ret]);refine ret_fr (fn := Try.f61) (rs := [.tmp 5]) rfl [_] hF ⟨rfl, trivial⟩ ?_
    exact ⟨rfl, HB2.out⟩

set_option maxRecDepth 100000 in
set_option maxHeartbeats 8000000 in
theorem ameet_any (w : World) (b : BoxR) (ga : Nat) (ar : AreaR) (h : AreaIn w ga ar) :
    Calls Try.prog 63 #[.agg #[.int .i64 b.x, .int .i64 b.y, .int .i64 b.x2, .int .i64 b.y2], .pointer (some ⟨ga, 0, none⟩)] w fun e w' => e = .returned (.bool (meetB ar.box b)) ∧ Below w.heap.size w w' := by
  have HA := Lib.hid h
  clear h
  refine enter_fr (N := 8) [.agg #[.int .i64 b.x, .int .i64 b.y, .int .i64 b.x2, .int .i64 b.y2], .pointer (some ⟨ga, 0, none⟩)] (Try.func63) rfl Try.ntmps63 (by rfl) (fun a hF => ?_);replace hF := hF.kp [0, 1] rfl;refine wp_seq_k (fun K hK => ?_);refine region_seq (l := [0, 1]) (by kernel_rfl) ?_;refine seq_one ?_;refine ze1 0 rfl rfl rfl hF rfl rfl ?_;clear hF;refine fun a hF => ?_;refine seq_ck [1] [] hF fun C hC => ?_;clear hF;refine za rfl rfl rfl ?_;refine hC _ (fun a hF => ?_);clear hC C;refine seq_end ?_;replace hF := hF.kp [1, 2] rfl;refine hK _ _ ?_;clear hK;(try clear K)
  have HB := Lib.hid (Joins.below_alloc1 w (.cells #[.int .i64 b.x, .int .i64 b.y, .int .i64 b.x2, .int .i64 b.y2] 46))
  have HX : Hid (BoxIn (w.alloc (.cells #[.int .i64 b.x, .int .i64 b.y, .int .i64 b.x2, .int .i64 b.y2] 46)) w.heap.size b) := World.alloc_heap_new w _
  have HA1 := Lib.hid (HA.out.down HB.out)
  clear HA
  generalize w.alloc (.cells #[.int .i64 b.x, .int .i64 b.y, .int .i64 b.x2, .int .i64 b.y2] 46) = w1 at *
  obtain ⟨g, hg⟩ : ∃ g, g = w.heap.size := ⟨_, rfl⟩
  rw [← hg] at hF HX
  clear hg
  obtain ⟨c0, c1, c2, c3⟩ := HX.out.cells
  obtain ⟨d0, d1, d2, d3, d4, d5, d6⟩ := HA1.out.cells
  clear d0 d5 d6
  refine wp_seq_k (fun K hK => ?_);refine region_sk [0, 1, 2] [3, 4] hF fun C hC => ?_;clear hF;refine zs1 1 rfl rfl ?_;refine zs1 4 rfl rfl ?_;refine zs1 2 rfl rfl ?_;refine hC _ (fun a hF => ?_);clear hC C;refine seq_one ?_;refine op_call [_, _] rfl rfl hF rfl (by kernel_rfl) ⟨rfl, rfl, trivial⟩ (fun K hK => ?_);clear hF
  refine (meet_any w1 ar.box b).mono ?_
  rintro e w2 ⟨rfl, hb⟩
  refine hK _ _ (fun a hF => ?_);clear hK K;refine seq_ck [4] [] hF fun C hC => ?_;clear hF;refine za rfl rfl rfl ?_;refine hC _ (fun a hF => ?_);clear hC C;refine seq_end ?_;replace hF := hF.kp [3] rfl;refine hK _ _ ?_;clear hK;(try clear K);refine wp_ret ?_;(try simp only [then_ret, block_ret, goto_ret]);refine ret_fr (fn := Try.f63) (rs := [.tmp 3]) rfl [_] hF ⟨rfl, trivial⟩ ?_
  exact ⟨rfl, HB.out.trans (hb.mono HB.out.size)⟩

theorem open_hit {re : List Bool} {l : LevR} {p : BoxR → Bool} {i : Nat} (hi : i < l.aisles.length) (hr : bx re i = true) (hl : re.length = l.aisles.length) (hp : p l.aisles[i] = true) : openB re l p = true := by
  unfold openB
  rw [List.any_eq_true]
  have hir : i < re.length := by omega
  refine ⟨(l.aisles[i], re[i]), ?_, ?_⟩
  · rw [List.mem_iff_getElem]
    exact ⟨i, by simp; omega, by simp⟩
  · have : re[i] = true := by simpa [bx, List.getD_eq_getElem?_getD, hir] using hr
    simp [this, hp]
theorem open_none {re : List Bool} {l : LevR} {p : BoxR → Bool} (h : ∀ j (hj : j < l.aisles.length), bx re j = true → p l.aisles[j] = false) : openB re l p = false := by
  unfold openB
  rw [List.any_eq_false]
  intro x hx
  obtain ⟨j, hj, rfl⟩ := List.mem_iff_getElem.1 hx
  have hja : j < l.aisles.length := by rw [List.length_zip] at hj; omega
  have hjr : j < re.length := by rw [List.length_zip] at hj; omega
  simp only [List.getElem_zip]
  cases hr : re[j]
  · simp
  · rw [h j hja (by simp [bx, List.getD_eq_getElem?_getD, hjr, hr])]
    simp

set_option maxRecDepth 100000 in
set_option maxHeartbeats 8000000 in
theorem open_any (w : World) (l : LevR) (gl gv gb : Nat) (D : List Bool) (fid : FuncId) (cap : List Value) (p : BoxR → Bool) (hpl : plainB Try.prog fid = true) (hL : LevIn w gl l) (hA : Recs BoxE w l.sa l.sn l.aisles) (hsn : l.sn ≤ 9223372036854775807)
    (hv : w.cell? ⟨gv, 0, none⟩ = some (.slice (some ⟨gb, 0, none⟩) l.sn l.sn)) (hD : BoolRow w gb 4 D) (hdl : D.length = l.sn)
    (hf : ∀ wx, Below w.heap.size w wx → ∀ b : BoxR, Calls Try.prog fid (.agg #[.int .i64 b.x, .int .i64 b.y, .int .i64 b.x2, .int .i64 b.y2] :: cap).toArray wx fun e w' => e = .returned (.bool (p b)) ∧ Below wx.heap.size wx w') :
    Calls Try.prog 56 #[.func (.func fid) #[] cap.toArray, .pointer (some ⟨gl, 0, none⟩), .pointer (some ⟨gv, 0, none⟩)] w fun e w' => e = .returned (.bool (openB D l p)) ∧ Below w.heap.size w w' := by
  have HL := Lib.hid hL
  have HA := Lib.hid hA
  have HV := Lib.hid hv
  have HD := Lib.hid hD
  have HF := Lib.hid hf
  have HSL := Lib.hid hA.1
  have HDL := Lib.hid hdl
  have c4 : w.cell? ⟨gl, 4, none⟩ = some (.slice l.sa l.sn l.sc) := boxed_cell (j := 4) hL rfl
  clear hL hA hv hD hf hdl
  refine enter_fr (N := 25) [.func (.func fid) #[] cap.toArray, .pointer (some ⟨gl, 0, none⟩), .pointer (some ⟨gv, 0, none⟩)] (Try.func56) rfl Try.ntmps56 (by rfl) (fun a hF => ?_);replace hF := hF.kp [0, 1, 2] rfl;refine wp_seq_k (fun K hK => ?_);refine region_sk [0] [] hF fun C hC => ?_;clear hF;refine za rfl rfl rfl ?_;refine hC _ (fun a hF => ?_);clear hC C;refine seq_end ?_;replace hF := hF.kp [0, 1, 2] rfl;refine hK _ _ ?_;clear hK;(try clear K);refine wp_seq_k (fun KA hKA => ?_);refine wp_seq_k (fun K hK => ?_);refine region_sk [0, 1, 2, 3] [] hF fun C hC => ?_;clear hF;refine zs1 1 rfl rfl ?_;refine zs1 7 rfl rfl ?_;refine zs1 8 rfl rfl ?_;refine zm rfl rfl rfl ?_;refine hC _ (fun a hF => ?_);clear hC C;refine seq_end ?_;replace hF := hF.kp [0, 2, 8, 9, 10] rfl;refine hK _ _ ?_;clear hK;(try clear K)
  refine wp_block ?_
  refine loop_fr (fun n a' w' => ∃ i : Nat, i + n = l.sn ∧ FrF 25 [] [(0, .func (.func fid) #[] cap.toArray), (2, .pointer (some ⟨gv, 0, none⟩)), (8, .slice l.sa l.sn l.sc), (9, .int .i64 l.sn), (10, .int .i64 i)] a' ∧ Hid (Below w.heap.size w w') ∧ Hid (∀ j (hj : j < l.aisles.length), j < i → bx D j = true → p l.aisles[j] = false)) l.sn ⟨0, by omega, hF, Below.refl _ _, fun j _ hj => absurd hj (Nat.not_lt_zero _)⟩ ?_
  clear hF c4
  rintro rk a wr ⟨i, hik, hF, HB, HP⟩ KB hKB
  refine wp_seq_k (fun K hK => ?_)
  by_cases hlt : i < l.sn
  rotate_left
  · refine region_sk [0] [] hF fun C hC => ?_;clear hF;refine zs2 9 10 rfl rfl rfl ?_;refine hC _ (fun a hF => ?_);clear hC C;refine seq_end ?_;replace hF := hF.kp [0, 2, 8, 9, 10, 11] rfl;refine hK _ _ ?_;clear hK;(try clear K);refine wp_seq_k (fun K hK => ?_)
    refine cond_no hF rfl ?_
    refine wp_exit ?_
    refine hKA _ _ ?_;clear hKA;(try clear KA);refine wp_seq_k (fun K hK => ?_);refine region_sk [0] [] hF fun C hC => ?_;clear hF;refine za rfl rfl rfl ?_;refine hC _ (fun a hF => ?_);clear hC C;refine seq_end ?_;replace hF := hF.kp [4] rfl;refine hK _ _ ?_;clear hK;(try clear K);refine wp_ret ?_;(try simp only [then_ret, block_ret, goto_ret]);refine ret_fr (fn := Try.f56) (rs := [.tmp 4]) rfl [_] hF ⟨rfl, trivial⟩ ?_
    refine ⟨?_, HB.out⟩
    rw [open_none fun j hj hr => HP.out j hj (by have := HSL.out; omega) hr]
    rfl
  refine region_sk [0] [] hF fun C hC => ?_;clear hF;refine zs2 9 10 rfl rfl rfl ?_;refine hC _ (fun a hF => ?_);clear hC C;refine seq_end ?_;replace hF := hF.kp [0, 2, 8, 9, 10, 11] rfl;refine hK _ _ ?_;clear hK;(try clear K);refine wp_seq_k (fun K hK => ?_)
  refine cond_yes hF rfl ?_
  refine wp_skip ?_
  refine hK _ _ ?_;clear hK;(try clear K);replace hF := hF.kp [0, 2, 8, 9, 10] rfl
  clear hKA
  have hil : i < l.aisles.length := by rw [HSL.out]; exact hlt
  have hid : i < D.length := by rw [HDL.out]; exact hlt
  have hii : (i : Int) < l.sn := by omega
  obtain ⟨b0, o, hsa, d0, d1, d2, d3⟩ := box_at (HA.out.below HB.out) i hlt hil
  have HHIT := Lib.hid (fun h1 h2 => open_hit (re := D) (p := p) hil h1 (by rw [HDL.out, HSL.out]) h2)
  have HPN : Hid ((bx D i = true → p l.aisles[i] = false) → ∀ j (hj : j < l.aisles.length), j < i + 1 → bx D j = true → p l.aisles[j] = false) := fun h j hj hji hr => by
    by_cases e : j = i
    · subst e; exact h hr
    · exact HP.out j hj (by omega) hr
  generalize l.aisles[i] = b at *
  refine seq_cut (fun a' w' => FrF 25 [] [(0, .func (.func fid) #[] cap.toArray), (2, .pointer (some ⟨gv, 0, none⟩)), (8, .slice l.sa l.sn l.sc), (9, .int .i64 l.sn), (10, .int .i64 i)] a' ∧ Hid (Below w.heap.size w w') ∧ Hid (∀ j (hj : j < l.aisles.length), j < i + 1 → bx D j = true → p l.aisles[j] = false)) (fun KC hKC => ?_) ?_
  rotate_left
  · clear hF HB HP HPN d0 d1 d2 d3 hsa
    rintro a w' ⟨hF, HB, HP⟩
    have hws : IntKind.i64.wrap ((i : Int) + 1) = ((i + 1 : Nat) : Int) := wrap_succ (by omega)
    refine region_sk [0, 1] [] hF fun C hC => ?_;clear hF;refine zs1 10 rfl rfl ?_;refine zm rfl rfl rfl ?_;refine hC _ (fun a hF => ?_);clear hC C;refine seq_end ?_;replace hF := hF.kp [0, 2, 8, 9, 10] rfl
    exact hKB (l.sn - (i + 1)) _ _ (by omega) ⟨i + 1, by omega, hF, HB, HP⟩
  clear hKB hik
  refine wp_block ?_
  refine wp_seq_k (fun K hK => ?_);refine region_sk [0, 1, 2] [3, 4, 5] hF fun C hC => ?_;clear hF;refine zm rfl rfl rfl ?_;refine zs2 8 10 rfl rfl rfl ?_;refine zs1 13 rfl rfl ?_;refine hC _ (fun a hF => ?_);clear hC C;refine seq_one ?_;refine ze0 rfl rfl rfl hF rfl ?_;clear hF;refine fun a hF => ?_;refine seq_ck [4] [5] hF fun C hC => ?_;clear hF;refine za rfl rfl rfl ?_;refine hC _ (fun a hF => ?_);clear hC C;refine seq_one ?_;refine zu2 6 14 rfl rfl hF rfl rfl rfl ?_;clear hF;refine fun a hF => ?_;refine seq_end ?_;replace hF := hF.kp [0, 2, 5, 6, 8, 9, 10] rfl;refine hK _ _ ?_;clear hK;(try clear K)
  have HX : Hid (BoxIn (wr.alloc (.cells #[.int .i64 b.x, .int .i64 b.y, .int .i64 b.x2, .int .i64 b.y2] 46)) wr.heap.size b) := World.alloc_heap_new wr _
  have HBa := Lib.hid (Joins.below_alloc1 wr (.cells #[.int .i64 b.x, .int .i64 b.y, .int .i64 b.x2, .int .i64 b.y2] 46))
  have HB2 : Hid (Below w.heap.size w (wr.alloc (.cells #[.int .i64 b.x, .int .i64 b.y, .int .i64 b.x2, .int .i64 b.y2] 46))) := HB.out.trans (HBa.out.mono HB.out.size)
  clear HB HBa d0 d1 d2 d3 hsa
  generalize wr.alloc (.cells #[.int .i64 b.x, .int .i64 b.y, .int .i64 b.x2, .int .i64 b.y2] 46) = w2 at *
  generalize wr.heap.size = gx at *
  obtain ⟨c0, c1, c2, c3⟩ := HX.out.cells
  have cv : w2.cell? ⟨gv, 0, none⟩ = some (.slice (some ⟨gb, 0, none⟩) l.sn l.sn) := Below.cell_of HB2.out HV.out
  have cd := Below.cell_of HB2.out (HD.out.cell i hid)
  have HFB := Lib.hid (HF.out w2 HB2.out b)
  obtain ⟨rb, hrb⟩ : ∃ rb, bx D i = rb := ⟨_, rfl⟩
  rw [hrb] at cd HHIT HPN
  clear hrb
  refine wp_seq_k (fun K hK => ?_)
  cases rb
  · refine region_sk [0, 1, 2, 3, 4, 5, 6, 7, 8] [] hF fun C hC => ?_;clear hF;refine zs1 2 rfl rfl ?_;refine zm rfl rfl rfl ?_;refine zs2 15 16 rfl rfl rfl ?_;refine zs1 17 rfl rfl ?_;refine zm rfl rfl rfl ?_;refine zx rfl ?_;refine zx rfl ?_;refine zx rfl ?_;refine zs2 19 22 rfl rfl rfl ?_;refine hC _ (fun a hF => ?_);clear hC C;refine seq_end ?_;replace hF := hF.kp [0, 2, 8, 9, 10, 23] rfl;refine hK _ _ ?_;clear hK;(try clear K)
    refine cond_no hF rfl ?_
    refine wp_skip ?_
    exact hKC _ _ ⟨hF.sub ⟨rfl, rfl, rfl, rfl, rfl, trivial⟩, HB2, HPN.out (fun h => by cases h)⟩
  refine region_sk [0, 1, 2, 3, 4, 5, 6] [7, 8] hF fun C hC => ?_;clear hF;refine zs1 2 rfl rfl ?_;refine zm rfl rfl rfl ?_;refine zs2 15 16 rfl rfl rfl ?_;refine zs1 17 rfl rfl ?_;refine zm rfl rfl rfl ?_;refine zm rfl rfl rfl ?_;refine zs1 6 rfl rfl ?_;refine hC _ (fun a hF => ?_);clear hC C;refine seq_one ?_;refine op_callv [_] _ _ rfl rfl hF rfl rfl (by first | assumption | kernel_rfl) ⟨rfl, trivial⟩ (fun K hK => ?_);clear hF
  refine HFB.out.mono ?_
  rintro e w3 ⟨rfl, hb3⟩
  have HB3 : Hid (Below w.heap.size w w3) := HB2.out.trans (hb3.mono HB2.out.size)
  clear HB2 hb3 c0 c1 c2 c3 cv cd HFB HX
  obtain ⟨pb, hpb⟩ : ∃ pb, p b = pb := ⟨_, rfl⟩
  have HPB := Lib.hid hpb
  rw [hpb]
  clear hpb
  cases pb
  · refine hK _ _ (fun a hF => ?_);clear hK K;refine seq_ck [8] [] hF fun C hC => ?_;clear hF;refine zs2 19 22 rfl rfl rfl ?_;refine hC _ (fun a hF => ?_);clear hC C;refine seq_end ?_;replace hF := hF.kp [0, 2, 8, 9, 10, 23] rfl;refine hK _ _ ?_;clear hK;(try clear K)
    refine cond_no hF rfl ?_
    refine wp_skip ?_
    exact hKC _ _ ⟨hF.sub ⟨rfl, rfl, rfl, rfl, rfl, trivial⟩, HB3, HPN.out (fun _ => HPB.out)⟩
  · refine hK _ _ (fun a hF => ?_);clear hK K;refine seq_ck [8] [] hF fun C hC => ?_;clear hF;refine zs2 19 22 rfl rfl rfl ?_;refine hC _ (fun a hF => ?_);clear hC C;refine seq_end ?_;replace hF := hF.kp [0, 2, 8, 9, 10, 23] rfl;refine hK _ _ ?_;clear hK;(try clear K)
    refine cond_yes hF rfl ?_
    refine wp_seq_k (fun K hK => ?_);refine region_sk [0] [] hF fun C hC => ?_;clear hF;refine za rfl rfl rfl ?_;refine hC _ (fun a hF => ?_);clear hC C;refine seq_end ?_;replace hF := hF.kp [4] rfl;refine hK _ _ ?_;clear hK;(try clear K);refine wp_ret ?_;(try simp only [then_ret, block_ret, goto_ret]);refine ret_fr (fn := Try.f56) (rs := [.tmp 4]) rfl [_] hF ⟨rfl, trivial⟩ ?_
    refine ⟨?_, HB3.out⟩
    rw [HHIT.out rfl HPB.out]
    rfl
end Go.Proofs.Ytmcdhggnpfhlmaa
