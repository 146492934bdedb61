/- HallNames: the walk. -/
import Derived.Test.YtmcdhggnpfhlmaaQHCB35
import Derived.Test.YtmcdhggnpfhlmaaQHCB38
import Derived.Test.YtmcdhggnpfhlmaaQHNA07

namespace Go.Proofs.Ytmcdhggnpfhlmaa
open Go.RowKit Go.IntWalk
set_option linter.unusedSimpArgs false
set_option linter.unusedVariables false

/-- How many faults there may be. -/
theorem faults_len {w : World} {h : HallR} (hi : h.In w) (hs : h.Sm) : (faultsS h).length ≤ 1000000 := by
  have hl : h.levels.length ≤ 12 := by have := hi.levels.1; have := hs.ln; omega
  have hb : ∀ l ∈ h.levels, l.blocks.length ≤ 6 ∧ l.areas.length ≤ 60 ∧ ∀ b ∈ l.blocks, b.rows.length ≤ 8 := fun l hl => by
    have h1 := hi.lev l hl
    have h2 := hs.lev l hl
    have h3 := h1.blocks.1
    have h4 := h1.areas.1
    have h5 := h2.b
    have h6 := h2.rest
    exact ⟨by omega, by omega, fun b hb => by have := (h1.blk b hb).1.1; have := hs.rn l hl b hb; omega⟩
  unfold faultsS
  split
  · rw [single_eq]
    have := atF_len (xs := h.levels) (f := fL h) (c := 200) (fun x hx j => fL_len (hb x hx).1 (hb x hx).2.1 (hb x hx).2.2 j) h.levels.length
    omega
  split
  · simp
  split
  · simp
  · have : ∀ (ls : List LevR), (∀ l ∈ ls, l.blocks.length ≤ 6 ∧ l.areas.length ≤ 60 ∧ ∀ b ∈ l.blocks, b.rows.length ≤ 8) → (ls.flatMap severalS).length ≤ ls.length * 20000 := fun ls => by
      induction ls with
      | nil => intro _; simp
      | cons l ls ih =>
        intro hl
        rw [List.flatMap_cons, List.length_append, List.length_cons]
        have h1 := ih fun x hx => hl x (List.mem_cons_of_mem _ hx)
        obtain ⟨q1, q2, q3⟩ := hl l (List.mem_cons_self ..)
        have h2 := severalS_len q1 q3 q2
        omega
    have := this h.levels hb
    omega
theorem build_flen {w : World} {h : HallR} (hi : h.In w) (hs : h.Sm) : (buildS h).2.length ≤ 1000000 := by
  unfold buildS
  split
  · simp
  · exact faults_len hi hs
/-- What Build gives of a plan with other names. -/
theorem build_same {h h2 : HallR} {p : Bst} (e : mH [] h2 = mH p h) : (buildS h2).1 = (buildS h).1 ∧ errs (buildS h2).2 = errs (buildS h).2 := by
  obtain ⟨h1, h3⟩ := build_named e
  have h4 := errs_nil h1
  unfold buildS
  by_cases hf : faultsS h = []
  · rw [if_pos hf, if_pos (h4.2 hf)]
    exact ⟨h3, rfl⟩
  · rw [if_neg hf, if_neg (fun e => hf (h4.1 e))]
    exact ⟨rfl, h1⟩

set_option maxRecDepth 100000 in
set_option maxHeartbeats 64000000 in
theorem names_law (w : World) (h : HallR) (pre : Bst) (y : Int) (hg : HallGot w h) (hp : pre.length ≤ 9223372036854775807) (hy : (Lit.int .i64 y).wf = true) :
    Calls Try.prog 6 #[.agg #[.string (bs h.name), .int .i64 h.stage.x, .int .i64 h.stage.y, .slice h.la h.ln h.lc], .string (bs pre), .int .i64 y] w fun e w' => e = .returned (.bool true) ∧ Below w.heap.size w w' := by
  clear hp hy
  have HG := Lib.hid hg
  clear hg
  refine enter_fr (N := 65) [.agg #[.string (bs h.name), .int .i64 h.stage.x, .int .i64 h.stage.y, .slice h.la h.ln h.lc], .string (bs pre), .int .i64 y] (Try.func6) rfl Try.ntmps6 (by rfl) (fun a hF => ?_);replace hF := hF.k3 0 1 2 rfl rfl rfl;refine wp_seq_k (fun K hK => ?_);refine region_seq (l := [0, 1]) (by kernel_rfl) ?_;refine seq_one ?_;refine ze1 0 rfl rfl rfl hF rfl rfl ?_;clear hF;refine fun a hF => ?_;refine seq_chain [(1, true)] [] rfl hF (fun C hC => ?_);clear hF;refine za rfl rfl rfl ?_;refine hC _ (fun a hF => ?_);clear hC C;refine seq_end ?_;replace hF := hF.k3 1 2 3 rfl rfl rfl;refine hK _ _ ?_;clear hK;(try clear K)
  have HX : Hid (HallIn (w.alloc (.cells #[.string (bs h.name), .int .i64 h.stage.x, .int .i64 h.stage.y, .slice h.la h.ln h.lc] 26)) w.heap.size h) := World.alloc_heap_new w _
  have HB1 : Hid (Below w.heap.size w (w.alloc (.cells #[.string (bs h.name), .int .i64 h.stage.x, .int .i64 h.stage.y, .slice h.la h.ln h.lc] 26))) := Joins.below_alloc1 w _
  generalize w.alloc (.cells #[.string (bs h.name), .int .i64 h.stage.x, .int .i64 h.stage.y, .slice h.la h.ln h.lc] 26) = w1 at *
  obtain ⟨gh, hgh⟩ : ∃ g, g = w.heap.size := ⟨_, rfl⟩
  rw [← hgh] at hF HX
  clear hgh
  refine wp_seq_k (fun K hK => ?_);refine region_seq (l := [0, 1]) (by kernel_rfl) ?_;refine seq_one ?_;refine op_call [] rfl rfl hF rfl (by kernel_rfl) trivial (fun K hK => ?_);clear hF
  refine (head_any w1).mono ?_
  rintro e w2 ⟨rfl, hb2⟩
  have HB2 : Hid (Below w.heap.size w w2) := HB1.out.trans (hb2.mono HB1.out.size)
  have HX2 := Lib.hid (HX.out.down hb2)
  clear HX HB1 hb2
  refine hK _ _ (fun a hF => ?_);clear hK K;refine seq_chain [(1, true)] [] rfl hF (fun C hC => ?_);clear hF;refine za rfl rfl rfl ?_;refine hC _ (fun a hF => ?_);clear hC C;refine seq_end ?_;replace hF := hF.k4 1 2 3 7 rfl rfl rfl rfl;refine hK _ _ ?_;clear hK;(try clear K)
  obtain ⟨c0, c1, c2, c3⟩ := HX2.out.cells
  refine wp_seq_k (fun K hK => ?_);refine wp_seq_k (fun K hK => ?_);refine region_seq (l := [0, 1, 2, 3, 4, 5, 6, 7]) (by kernel_rfl) ?_;refine seq_chain [(0, true)] [1, 2, 3, 4, 5, 6, 7] rfl hF (fun C hC => ?_);clear hF;refine zs1 3 rfl rfl ?_;refine hC _ (fun a hF => ?_);clear hC C;refine seq_one ?_;refine op_call [_] rfl rfl hF rfl (by kernel_rfl) ⟨rfl, trivial⟩ (fun K hK => ?_);clear hF
  refine (few_any w2 h (HG.out.hin.below HB2.out) HG.out.reach).mono ?_
  rintro e w3 ⟨b, rfl, hfew, hb3⟩
  have HB3 : Hid (Below w.heap.size w w3) := HB2.out.trans (hb3.mono HB2.out.size)
  have HX3 := Lib.hid (HX2.out.down hb3)
  have HFW := Lib.hid hfew
  clear c0 c1 c2 c3 HX2 HB2 hb3 hfew
  cases b
  · refine hK _ _ (fun a hF => ?_);clear hK K;refine seq_chain [(2, true), (3, true), (4, true), (5, true), (6, true), (7, true)] [] rfl hF (fun C hC => ?_);clear hF;refine zs1 15 rfl rfl ?_;refine zm rfl rfl rfl ?_;refine zX rfl rfl rfl rfl ?_;refine zX rfl rfl rfl rfl ?_;refine zX rfl rfl rfl rfl ?_;refine zs2 17 20 rfl rfl rfl ?_;refine hC _ (fun a hF => ?_);clear hC C;refine seq_end ?_;replace hF := hF.k5 1 2 3 7 21 rfl rfl rfl rfl rfl;refine hK _ _ ?_;clear hK;(try clear K)
    refine cond_yes hF rfl ?_
    refine wp_seq_k (fun K hK => ?_);refine region_seq (l := [0, 1]) (by kernel_rfl) ?_;refine seq_chain [(0, true), (1, true)] [] rfl hF (fun C hC => ?_);clear hF;refine zm rfl rfl rfl ?_;refine za rfl rfl rfl ?_;refine hC _ (fun a hF => ?_);clear hC C;refine seq_end ?_;replace hF := hF.k1 6 rfl;refine hK _ _ ?_;clear hK;(try clear K);refine wp_ret ?_;(try simp only [then_ret, block_ret, goto_ret]);refine ret_fr (fn := Try.f6) (rs := [.tmp 6]) rfl [_] hF ⟨rfl, trivial⟩ ?_
    exact ⟨rfl, HB3.out⟩
  have HSM := Lib.hid (HFW.out rfl).sm
  clear HFW
  by_cases hpl : 50 < (bs pre).size
  · have hpl1 : (50 : Int) < ((bs pre).size : Nat) := by omega
    refine hK _ _ (fun a hF => ?_);clear hK K;refine seq_chain [(2, true), (3, true), (4, true), (5, true), (6, true), (7, true)] [] rfl hF (fun C hC => ?_);clear hF;refine zs1 15 rfl rfl ?_;refine zm rfl rfl rfl ?_;refine zm rfl rfl rfl ?_;refine zs1 18 rfl rfl ?_;refine zs1 19 rfl rfl ?_;refine zs2 17 20 rfl rfl rfl ?_;refine hC _ (fun a hF => ?_);clear hC C;refine seq_end ?_;replace hF := hF.k5 1 2 3 7 21 rfl rfl rfl rfl rfl;refine hK _ _ ?_;clear hK;(try clear K)
    refine cond_yes hF rfl ?_
    refine wp_seq_k (fun K hK => ?_);refine region_seq (l := [0, 1]) (by kernel_rfl) ?_;refine seq_chain [(0, true), (1, true)] [] rfl hF (fun C hC => ?_);clear hF;refine zm rfl rfl rfl ?_;refine za rfl rfl rfl ?_;refine hC _ (fun a hF => ?_);clear hC C;refine seq_end ?_;replace hF := hF.k1 6 rfl;refine hK _ _ ?_;clear hK;(try clear K);refine wp_ret ?_;(try simp only [then_ret, block_ret, goto_ret]);refine ret_fr (fn := Try.f6) (rs := [.tmp 6]) rfl [_] hF ⟨rfl, trivial⟩ ?_
    exact ⟨rfl, HB3.out⟩
  have hpl1 : ¬ (50 : Int) < ((bs pre).size : Nat) := by omega
  refine hK _ _ (fun a hF => ?_);clear hK K;refine seq_chain [(2, true), (3, true), (4, true), (5, true), (6, true), (7, true)] [] rfl hF (fun C hC => ?_);clear hF;refine zs1 15 rfl rfl ?_;refine zm rfl rfl rfl ?_;refine zm rfl rfl rfl ?_;refine zs1 18 rfl rfl ?_;refine zs1 19 rfl rfl ?_;refine zs2 17 20 rfl rfl rfl ?_;refine hC _ (fun a hF => ?_);clear hC C;refine seq_end ?_;replace hF := hF.k5 1 2 3 7 21 rfl rfl rfl rfl rfl;refine hK _ _ ?_;clear hK;(try clear K)
  refine cond_no hF rfl ?_
  refine wp_skip ?_
  refine hK _ _ ?_;clear hK;(try clear K)
  have HPL : Hid (pre.length ≤ NB) := by
    show pre.length ≤ 140737488351232
    rw [bs_size] at hpl
    omega
  clear hpl hpl1
  obtain ⟨c0, c1, c2, c3⟩ := HX3.out.cells
  refine wp_seq_k (fun K hK => ?_);refine region_seq (l := [0, 1, 2, 3, 4, 5, 6]) (by kernel_rfl) ?_;refine seq_chain [(0, true)] [1, 2, 3, 4, 5, 6] rfl hF (fun C hC => ?_);clear hF;refine zs1 3 rfl rfl ?_;refine hC _ (fun a hF => ?_);clear hC C;refine seq_one ?_;refine op_call [_] rfl rfl hF rfl (by kernel_rfl) ⟨rfl, trivial⟩ (fun K hK => ?_);clear hF
  refine (build_any w3 h (HG.out.hin.below HB3.out) HSM.out HG.out.ac).mono ?_
  rintro e w4 ⟨⟨la, n, c, fa, m, d, rfl, hp, hpf⟩, hb4⟩
  have HB4 : Hid (Below w.heap.size w w4) := HB3.out.trans (hb4.mono HB3.out.size)
  have HX4 := Lib.hid (HX3.out.down hb4)
  have HP := Lib.hid hp
  have HPF := Lib.hid hpf
  have hn4 : (buildS h).1.length ≤ 4000 := build_len
  have hm4 : (buildS h).2.length ≤ 1000000 := build_flen HG.out.hin HSM.out
  clear c0 c1 c2 c3 HX3 hb4 hp hpf
  refine hK _ _ (fun a hF => ?_);clear hK K;refine seq_chain [(2, true), (3, true), (4, true), (5, true), (6, true)] [] rfl hF (fun C hC => ?_);clear hF;refine zm rfl rfl rfl ?_;refine zs1 23 rfl rfl ?_;refine zs1 23 rfl rfl ?_;refine za rfl rfl rfl ?_;refine za rfl rfl rfl ?_;refine hC _ (fun a hF => ?_);clear hC C;refine seq_end ?_;replace hF := hF.k6 1 2 3 7 8 9 rfl rfl rfl rfl rfl rfl;refine hK _ _ ?_;clear hK;(try clear K)
  obtain ⟨c0, c1, c2, c3⟩ := HX4.out.cells
  refine wp_seq_k (fun K hK => ?_);refine region_seq (l := [0, 1, 2, 3, 4, 5, 6, 7, 8, 9]) (by kernel_rfl) ?_;refine seq_chain [(0, true), (1, true), (2, true)] [3, 4, 5, 6, 7, 8, 9] rfl hF (fun C hC => ?_);clear hF;refine zs1 3 rfl rfl ?_;refine zm rfl rfl rfl ?_;refine zm rfl rfl rfl ?_;refine hC _ (fun a hF => ?_);clear hC C;refine seq_one ?_;refine op_call [_, _, _] rfl rfl hF rfl (by kernel_rfl) ⟨rfl, rfl, rfl, trivial⟩ (fun K hK => ?_);clear hF
  refine (named_any w4 h pre y (HG.out.hin.below HB4.out) HSM.out HG.out.nm HPL.out).mono ?_
  rintro e w5 ⟨h', rfl, hN, hE, hnm⟩
  have HN := Lib.hid hN
  have HE := Lib.hid (build_same hE)
  have HB45 : Hid (Below w4.heap.size w4 w5) := hN.below
  clear c0 c1 c2 c3 hN hE HX4
  refine hK _ _ (fun a hF => ?_);clear hK K;refine seq_one ?_;refine op_call [_] rfl rfl hF rfl (by kernel_rfl) ⟨rfl, trivial⟩ (fun K hK => ?_);clear hF
  have hbn : (.string ⟨#[]⟩ : Value) = .string (bs h'.name) := by rw [hnm]; rfl
  rw [hbn]
  clear hbn hnm
  refine (build_any w5 h' HN.out.in HN.out.sm fun l hl => (HN.out.levs l hl).ac).mono ?_
  rintro e w6 ⟨⟨la2, n2, c2, fa2, m2, d2, rfl, hp2, hpf2⟩, hb6⟩
  have HB46 : Hid (Below w4.heap.size w4 w6) := HB45.out.trans (hb6.mono HB45.out.size)
  rw [HE.out.1] at hp2
  have HP2 := Lib.hid hp2
  have HPF2 := Lib.hid hpf2
  have HP6 := Lib.hid (HP.out.below HB46.out)
  have HPF6 := Lib.hid (HPF.out.below HB46.out)
  have HER := Lib.hid HE.out.2
  have HW6 : Hid (Below w.heap.size w w6) := HB4.out.trans (HB46.out.mono HB4.out.size)
  obtain rfl : (buildS h).1.length = n := HP.out.1
  obtain rfl : (buildS h).1.length = n2 := hp2.1
  obtain rfl : (buildS h).2.length = m := HPF.out.1
  have HM2 : Hid ((buildS h').2.length = (buildS h).2.length) := by
    have := congrArg List.length HER.out
    unfold errs at this
    rwa [List.length_map, List.length_map] at this
  have hm2 : (buildS h').2.length = m2 := hpf2.1
  rw [HM2.out] at hm2
  subst hm2
  clear hp2 hpf2 hb6 HN HE HB45 HB46 HP HPF HG HSM HPL HB3 HB4
  generalize (buildS h').2 = F' at *
  generalize (buildS h).2 = F at *
  generalize (buildS h).1 = P at *
  refine hK _ _ (fun a hF => ?_);clear hK K;refine seq_chain [(5, true), (6, true), (7, true), (8, true), (9, true)] [] rfl hF (fun C hC => ?_);clear hF;refine zm rfl rfl rfl ?_;refine zs1 28 rfl rfl ?_;refine zs1 28 rfl rfl ?_;refine za rfl rfl rfl ?_;refine za rfl rfl rfl ?_;refine hC _ (fun a hF => ?_);clear hC C;refine seq_end ?_;replace hF := hF.k5 7 8 9 10 11 rfl rfl rfl rfl rfl;refine hK _ _ ?_;clear hK;(try clear K)
  have hdd : decide (P = P) = true := decide_eq_true rfl
  refine wp_seq_k (fun K hK => ?_);refine wp_seq_k (fun K hK => ?_);refine region_seq (l := [0, 1, 2, 3, 4, 5, 6, 7, 8, 9, 10]) (by kernel_rfl) ?_;refine seq_chain [(0, true), (1, true), (2, true), (3, true), (4, true), (5, true), (6, true), (7, true)] [8, 9, 10] rfl hF (fun C hC => ?_);clear hF;refine zm rfl rfl rfl ?_;refine zs1 36 rfl rfl ?_;refine zm rfl rfl rfl ?_;refine zs1 38 rfl rfl ?_;refine zs2 37 39 rfl rfl rfl ?_;refine zm rfl rfl rfl ?_;refine zm rfl rfl rfl ?_;refine zm rfl rfl rfl ?_;refine hC _ (fun a hF => ?_);clear hC C;refine seq_one ?_;refine op_call [_, _] rfl rfl hF rfl (by kernel_rfl) ⟨rfl, rfl, trivial⟩ (fun K hK => ?_);clear hF
  refine (same_plc w6 la la2 P.length c P.length c2 P P HP6.out HP2.out (by omega) (by omega)).mono ?_
  rintro e w7 ⟨rfl, hb7⟩
  rw [hdd]
  have HPF7 := Lib.hid (HPF6.out.below hb7)
  have HPF27 := Lib.hid (HPF2.out.below hb7)
  have HW7 : Hid (Below w.heap.size w w7) := HW6.out.trans (hb7.mono HW6.out.size)
  clear hdd hb7 HP6 HP2 HPF6 HPF2 HW6
  refine hK _ _ (fun a hF => ?_);clear hK K;refine seq_chain [(9, true), (10, true)] [] rfl hF (fun C hC => ?_);clear hF;refine zs1 44 rfl rfl ?_;refine zs2 41 45 rfl rfl rfl ?_;refine hC _ (fun a hF => ?_);clear hC C;refine seq_end ?_;replace hF := hF.k4 7 9 11 46 rfl rfl rfl rfl;refine hK _ _ ?_;clear hK;(try clear K)
  refine cond_no hF rfl ?_
  refine wp_skip ?_
  refine hK _ _ ?_;clear hK;(try clear K);refine wp_seq_k (fun KA hKA => ?_);refine wp_seq_k (fun K hK => ?_);refine region_seq (l := [0]) (by kernel_rfl) ?_;refine seq_chain [(0, true)] [] rfl hF (fun C hC => ?_);clear hF;refine za rfl rfl rfl ?_;refine hC _ (fun a hF => ?_);clear hC C;refine seq_end ?_;replace hF := hF.k4 7 9 11 12 rfl rfl rfl rfl;refine hK _ _ ?_;clear hK;(try clear K)
  refine wp_block ?_
  refine loop_fr (fun q a' w' => ∃ i : Nat, i + q = F.length ∧ FrF 65 [] [(7, .bool true), (9, .slice fa F.length d), (11, .slice fa2 F.length d2), (12, .int .i64 i)] a' ∧ Hid (Below w7.heap.size w7 w')) F.length ⟨0, by omega, hF, Below.refl _ _⟩ ?_
  clear hF
  rintro rk a wr ⟨i, hik, hF, HB⟩ KB hKB
  refine wp_seq_k (fun K hK => ?_);refine wp_seq_k (fun K hK => ?_)
  by_cases hlt : i < F.length
  rotate_left
  · have hlti : ¬ (i : Int) < (F.length : Nat) := by omega
    refine region_seq (l := [0, 1, 2, 3]) (by kernel_rfl) ?_;refine seq_chain [(0, true), (1, true), (2, true), (3, true)] [] rfl hF (fun C hC => ?_);clear hF;refine zm rfl rfl rfl ?_;refine zm rfl rfl rfl ?_;refine zs1 48 rfl rfl ?_;refine zs2 47 49 rfl rfl rfl ?_;refine hC _ (fun a hF => ?_);clear hC C;refine seq_end ?_;replace hF := hF.k5 7 9 11 12 50 rfl rfl rfl rfl rfl;refine hK _ _ ?_;clear hK;(try clear K)
    refine cond_no hF rfl ?_
    refine wp_exit ?_
    refine hKA _ _ ?_;clear hKA;(try clear KA);refine wp_seq_k (fun K hK => ?_);refine region_seq (l := [0, 1]) (by kernel_rfl) ?_;refine seq_chain [(0, true), (1, true)] [] rfl hF (fun C hC => ?_);clear hF;refine zm rfl rfl rfl ?_;refine za rfl rfl rfl ?_;refine hC _ (fun a hF => ?_);clear hC C;refine seq_end ?_;replace hF := hF.k1 6 rfl;refine hK _ _ ?_;clear hK;(try clear K);refine wp_ret ?_;(try simp only [then_ret, block_ret, goto_ret]);refine ret_fr (fn := Try.f6) (rs := [.tmp 6]) rfl [_] hF ⟨rfl, trivial⟩ ?_
    exact ⟨rfl, HW7.out.trans (HB.out.mono HW7.out.size)⟩
  have hlti : (i : Int) < (F.length : Nat) := by omega
  refine region_seq (l := [0, 1, 2, 3]) (by kernel_rfl) ?_;refine seq_chain [(0, true), (1, true), (2, true), (3, true)] [] rfl hF (fun C hC => ?_);clear hF;refine zm rfl rfl rfl ?_;refine zm rfl rfl rfl ?_;refine zs1 48 rfl rfl ?_;refine zs2 47 49 rfl rfl rfl ?_;refine hC _ (fun a hF => ?_);clear hC C;refine seq_end ?_;replace hF := hF.k5 7 9 11 12 50 rfl rfl rfl rfl rfl;refine hK _ _ ?_;clear hK;(try clear K)
  refine cond_yes hF rfl ?_
  refine wp_skip ?_
  refine hK _ _ ?_;clear hK;(try clear K);replace hF := hF.k4 7 9 11 12 rfl rfl rfl rfl
  clear hKA
  have hlt2 : i < F'.length := by rw [HM2.out]; exact hlt
  have hee : F[i].err = F'[i].err := by
    have := congrArg (fun l => l[i]?) HER.out
    unfold errs at this
    rw [List.getElem?_map, List.getElem?_map, List.getElem?_eq_getElem hlt, List.getElem?_eq_getElem hlt2] at this
    simpa using this.symm
  obtain ⟨bb, oo, hla, d0, _, _⟩ := fault_at (HPF7.out.below HB.out) i hlt hlt
  obtain ⟨bb2, oo2, hla2, e0, _, _⟩ := fault_at (HPF27.out.below HB.out) i hlt hlt2
  rw [← hee] at e0
  clear hee
  subst hla hla2
  refine wp_seq_k (fun KC hKC => ?_)
  refine wp_block ?_
  refine wp_seq_k (fun K hK => ?_);refine region_any (by kernel_rfl) ?_;refine any_chain (fuel := 0) [(0, false), (1, false), (2, false), (3, false), (4, true), (5, false), (6, false), (7, false), (8, false), (9, true), (10, false)] [] rfl (by kernel_rfl) (by kernel_rfl) hF (fun _ _ d _ _ h => by cases d <;> exact h) (fun C hC => ?_);clear hF;refine zm rfl rfl rfl ?_;refine zm rfl rfl rfl ?_;refine zy2 53 54 rfl rfl rfl ?_;refine zy1 55 rfl rfl ?_;refine zs1 56 rfl rfl ?_;refine zm rfl rfl rfl ?_;refine zm rfl rfl rfl ?_;refine zy2 58 59 rfl rfl rfl ?_;refine zy1 60 rfl rfl ?_;refine zs1 61 rfl rfl ?_;refine zy2 57 62 rfl rfl rfl ?_;refine hC _ (fun a hF => ?_);clear hC C;refine any_end (by kernel_rfl) ?_;replace hF := hF.k5 7 9 11 12 63 rfl rfl rfl rfl rfl;refine hK _ _ ?_;clear hK;(try clear K)
  refine cond_no hF rfl ?_
  refine wp_skip ?_
  refine hKC _ _ ?_;clear hKC;(try clear KC)
  have hws : IntKind.i64.wrap ((i : Int) + 1) = ((i + 1 : Nat) : Int) := wrap_succ (by omega)
  refine region_seq (l := [0, 1, 2]) (by kernel_rfl) ?_;refine seq_chain [(0, true), (1, true), (2, true)] [] rfl hF (fun C hC => ?_);clear hF;refine zm rfl rfl rfl ?_;refine zs1 51 rfl rfl ?_;refine za rfl rfl rfl ?_;refine hC _ (fun a hF => ?_);clear hC C;refine seq_end ?_;replace hF := hF.k4 7 9 11 12 rfl rfl rfl rfl
  exact hKB (F.length - (i + 1)) _ _ (by omega) ⟨i + 1, by omega, hF, below_d HB.out⟩
end Go.Proofs.Ytmcdhggnpfhlmaa
