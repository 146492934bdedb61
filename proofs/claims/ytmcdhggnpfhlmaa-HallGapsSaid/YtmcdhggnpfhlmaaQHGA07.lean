/- hall: foyerlaw10.named: the walk. -/
import Derived.Test.YtmcdhggnpfhlmaaQHGA06

namespace Go.Proofs.Ytmcdhggnpfhlmaa
open Go.RowKit Go.IntWalk
set_option linter.unusedSimpArgs false
set_option linter.unusedVariables false
set_option maxRecDepth 100000 in
set_option maxHeartbeats 64000000 in
theorem named_any (w : World) (h : HallR) (pre : Bst) (y : Int) (hin : h.In w) (hsm : h.Sm) (hnm : ∀ l ∈ h.levels, LevNm l) (hpre : pre.length ≤ NB) :
    Calls Try.prog 16 #[.agg #[.string (bs h.name), .int .i64 h.stage.x, .int .i64 h.stage.y, .slice h.la h.ln h.lc], .string (bs pre), .int .i64 y] w fun e w' => ∃ h' : HallR, e = .returned (.agg #[.string ⟨#[]⟩, .int .i64 h'.stage.x, .int .i64 h'.stage.y, .slice h'.la h'.ln h'.lc]) ∧ NHall w w' h' ∧ mH [] h' = mH pre h ∧ h'.name = [] := by
  have HIN := Lib.hid hin
  have HSM := Lib.hid hsm
  have HNM := Lib.hid hnm
  have HPR := Lib.hid hpre
  have hln := hsm.ln
  clear hin hsm hnm hpre
  refine enter_fr (N := 122) [.agg #[.string (bs h.name), .int .i64 h.stage.x, .int .i64 h.stage.y, .slice h.la h.ln h.lc], .string (bs pre), .int .i64 y] (Try.func16) rfl Try.ntmps16 (by rfl) (fun a hF => ?_);replace hF := hF.kp [0, 1, 2] rfl;refine wp_seq_k (fun K hK => ?_);refine region_seq (l := [0, 1]) (by kernel_rfl) ?_;refine seq_one ?_;refine ze1 0 rfl rfl rfl hF rfl rfl ?_;clear hF;refine fun a hF => ?_
  have HH1 : Hid (HallIn (w.alloc (.cells #[.string (bs h.name), .int .i64 h.stage.x, .int .i64 h.stage.y, .slice h.la h.ln h.lc] 26)) w.heap.size h) := World.alloc_heap_new w _
  have HB1 : Hid (Below w.heap.size w (w.alloc (.cells #[.string (bs h.name), .int .i64 h.stage.x, .int .i64 h.stage.y, .slice h.la h.ln h.lc] 26))) := Joins.below_alloc1 w _
  generalize w.alloc (.cells #[.string (bs h.name), .int .i64 h.stage.x, .int .i64 h.stage.y, .slice h.la h.ln h.lc] 26) = w1 at *
  obtain ⟨gh, hgh⟩ : ∃ g, g = w.heap.size := ⟨_, rfl⟩
  have HGP0 : Hid (w.heap.size ≤ gh) := Nat.le_of_eq hgh.symm
  rw [← hgh] at hF HH1
  clear hgh
  refine seq_one ?_;refine ze0 rfl rfl rfl hF rfl ?_;clear hF;refine fun a hF => ?_
  have HP2 : Hid ((w1.alloc (.cells #[.string ⟨#[]⟩, .int .i64 0, .int .i64 0, .slice none 0 0] 26)).heap[w1.heap.size]? = some (.cells #[.string ⟨#[]⟩, .int .i64 0, .int .i64 0, .slice none 0 0] 26 (0, 0))) := World.alloc_heap_new w1 _
  have hb : Below w1.heap.size w1 (w1.alloc (.cells #[.string ⟨#[]⟩, .int .i64 0, .int .i64 0, .slice none 0 0] 26)) := Joins.below_alloc1 w1 _
  have HH2 := Lib.hid (HH1.out.down hb)
  have HB2 : Hid (Below w.heap.size w (w1.alloc (.cells #[.string ⟨#[]⟩, .int .i64 0, .int .i64 0, .slice none 0 0] 26))) := HB1.out.trans (hb.mono HB1.out.size)
  have HGP : Hid (w.heap.size ≤ w1.heap.size ∧ gh < w1.heap.size) := ⟨HB1.out.size, lt_of_block HH1.out⟩
  clear HH1 HB1 hb
  generalize w1.alloc (.cells #[.string ⟨#[]⟩, .int .i64 0, .int .i64 0, .slice none 0 0] 26) = w2 at *
  have HGP1 : Hid (w.heap.size ≤ gh) := HGP0.out
  clear HGP0
  obtain ⟨gp, hgp⟩ : ∃ g, g = w1.heap.size := ⟨_, rfl⟩
  rw [← hgp] at hF HP2 HGP
  clear hgp
  refine seq_end ?_;replace hF := hF.kp [1, 2, 3, 6] rfl;refine hK _ _ ?_;clear hK;(try clear K);refine wp_seq_k (fun K hK => ?_);refine region_seq (l := [0]) (by kernel_rfl) ?_;refine seq_one ?_;refine ze0 rfl rfl rfl hF rfl ?_;clear hF;refine fun a hF => ?_
  have HO3 : Hid (HallIn (w2.alloc (.cells #[.string ⟨#[]⟩, .int .i64 0, .int .i64 0, .slice none 0 0] 26)) w2.heap.size ⟨[], ⟨0, 0⟩, none, 0, 0, []⟩) := World.alloc_heap_new w2 _
  have hb : Below w2.heap.size w2 (w2.alloc (.cells #[.string ⟨#[]⟩, .int .i64 0, .int .i64 0, .slice none 0 0] 26)) := Joins.below_alloc1 w2 _
  have HH3 := Lib.hid (HH2.out.down hb)
  have HP3 := Lib.hid ((hb.block gp (lt_of_block HP2.out)).trans HP2.out)
  have HB3 : Hid (Below w.heap.size w (w2.alloc (.cells #[.string ⟨#[]⟩, .int .i64 0, .int .i64 0, .slice none 0 0] 26))) := HB2.out.trans (hb.mono HB2.out.size)
  have HGO : Hid (w.heap.size ≤ w2.heap.size ∧ gh < w2.heap.size ∧ gp < w2.heap.size) := ⟨HB2.out.size, lt_of_block HH2.out, lt_of_block HP2.out⟩
  clear HH2 HB2 HP2 hb
  generalize w2.alloc (.cells #[.string ⟨#[]⟩, .int .i64 0, .int .i64 0, .slice none 0 0] 26) = w3 at *
  obtain ⟨go, hgo⟩ : ∃ g, g = w2.heap.size := ⟨_, rfl⟩
  rw [← hgo] at hF HO3 HGO
  clear hgo
  refine seq_end ?_;replace hF := hF.kp [1, 2, 3, 6, 7] rfl;refine hK _ _ ?_;clear hK;(try clear K)
  obtain ⟨c0, c1, c2, c3⟩ := HH3.out.cells
  obtain ⟨o0, o1, o2, o3⟩ := HO3.out.cells
  have f1 := free_var (o := 1) HO3.out
  have f2 := free_var (o := 2) HO3.out
  refine wp_seq_k (fun K hK => ?_);refine region_sk [0, 1, 2] [3] hF fun C hC => ?_;clear hF;refine zs1 3 rfl rfl ?_;refine zs1 19 rfl rfl ?_;refine zs1 7 rfl rfl ?_;refine hC _ (fun a hF => ?_);clear hC C;refine seq_one ?_;refine zu2 20 21 rfl rfl hF rfl rfl rfl ?_;clear hF;refine fun a hF => ?_
  have HN4 : Hid (NSt w ((w3.setCell ⟨go, 1, none⟩ (.int .i64 h.stage.x)).setCell ⟨go, 2, none⟩ (.int .i64 h.stage.y)) h gh gp go pre 0 [] none 0) := ⟨HB3.out.trans ((below_set HGO.out.1).trans (below_set HGO.out.1)), (set_other (by have := HGO.out.2.1; omega)).trans ((set_other (by have := HGO.out.2.1; omega)).trans HH3.out), (set_other (by have := HGO.out.2.2; omega)).trans ((set_other (by have := HGO.out.2.2; omega)).trans HP3.out), (HO3.out.setX h.stage.x).setY h.stage.y, nil_row, fun _ h => (by cases h), List.Pairwise.nil, rfl, HGP1.out, HGP.out.2, HGO.out.2.2⟩
  refine seq_end ?_;replace hF := hF.kp [1, 2, 3, 6, 7] rfl
  clear c0 c1 c2 c3 o0 o1 o2 o3 f1 f2 HO3 HH3 HP3 HB3 HGO HGP HGP1
  refine hK _ _ ?_;clear hK;(try clear K)
  generalize (w3.setCell ⟨go, 1, none⟩ (.int .i64 h.stage.x)).setCell ⟨go, 2, none⟩ (.int .i64 h.stage.y) = w4 at *
  have HLL : Hid (h.levels.length = h.ln) := HIN.out.levels.1
  refine wp_seq_k (fun KA hKA => ?_);refine wp_seq_k (fun K hK => ?_);refine region_sk [0] [] hF fun C hC => ?_;clear hF;refine za rfl rfl rfl ?_;refine hC _ (fun a hF => ?_);clear hC C;refine seq_end ?_;replace hF := hF.kp [1, 2, 3, 6, 7, 8] rfl;refine hK _ _ ?_;clear hK;(try clear K)
  refine wp_block ?_
  refine loop_fr (fun q a' w' => ∃ (n : Nat) (ls : List LevR) (lo : Option Addr) (co : Nat), n + q = h.ln ∧ FrF 122 [] [(1, .string (bs pre)), (2, .int .i64 y), (3, .pointer (some ⟨gh, 0, none⟩)), (6, .pointer (some ⟨gp, 0, none⟩)), (7, .pointer (some ⟨go, 0, none⟩)), (8, .int .i64 n)] a' ∧ Hid (NSt w w' h gh gp go pre n ls lo co)) h.ln ⟨0, [], none, 0, by omega, hF, HN4⟩ ?_
  clear hF HN4
  rintro rk a wi ⟨n, ls, lo, co, hnk, hF, HN⟩ KB hKB
  refine wp_seq_k (fun K hK => ?_);refine wp_seq_k (fun K hK => ?_)
  obtain ⟨c0, c1, c2, c3⟩ := HN.out.hh.cells
  by_cases hlt : n < h.ln
  rotate_left
  · have hlti : ¬ (n : Int) < (h.ln : Nat) := by omega
    refine region_sk [0, 1, 2, 3, 4] [] hF fun C hC => ?_;clear hF;refine zm rfl rfl rfl ?_;refine zs1 3 rfl rfl ?_;refine zs1 23 rfl rfl ?_;refine zs1 24 rfl rfl ?_;refine zs2 22 25 rfl rfl rfl ?_;refine hC _ (fun a hF => ?_);clear hC C;refine seq_end ?_;replace hF := hF.kp [1, 2, 3, 6, 7, 8, 26] rfl
    clear c0 c1 c2 c3
    refine hK _ _ ?_;clear hK;(try clear K)
    refine cond_no hF rfl ?_
    refine wp_exit ?_
    refine hKA _ _ ?_;clear hKA;(try clear KA)
    have hne : n = h.ln := by omega
    have HLN : Hid (ls.length = h.ln) := by
      show _ = _
      rw [HN.out.len (by rw [HLL.out]; omega), hne]
    obtain ⟨o0', o1, o2, o3⟩ := HN.out.ho.cells
    have o0 : wi.cell? ⟨go, 0, none⟩ = some (.string ⟨#[]⟩) := o0'
    clear o0'
    have hSV := run_storeVar_row (P := Try.prog) wi gp 26 26 #[.string ⟨#[]⟩, .int .i64 0, .int .i64 0, .slice none 0 0] #[.string ⟨#[]⟩, .int .i64 h.stage.x, .int .i64 h.stage.y, .slice lo ls.length co] HN.out.hp (by kernel_rfl) rfl (by simp [Value.oneCell'])
    have hrow := setRow_heap wi gp #[.string ⟨#[]⟩, .int .i64 0, .int .i64 0, .slice none 0 0] #[.string ⟨#[]⟩, .int .i64 h.stage.x, .int .i64 h.stage.y, .slice lo ls.length co] 26 (0, 0) HN.out.hp
    have hne2 := HN.out.ne
    have HB8 : Hid (Below w.heap.size w (wi.setRow gp #[.string ⟨#[]⟩, .int .i64 h.stage.x, .int .i64 h.stage.y, .slice lo ls.length co])) := below_setRow HN.out.below (by omega) _
    have KK : ∀ (g : Nat) (A : Array Value) (T : TypeId) (y : Nat × Nat), T ≠ 26 → wi.heap[g]? = some (.cells A T y) → (wi.setRow gp #[.string ⟨#[]⟩, .int .i64 h.stage.x, .int .i64 h.stage.y, .slice lo ls.length co]).heap[g]? = wi.heap[g]? := fun g A T y hT e => setRow_other wi _ (fun e2 => type_ne e HN.out.hp hT e2.symm)
    have HNH : Hid (NHall w (wi.setRow gp #[.string ⟨#[]⟩, .int .i64 h.stage.x, .int .i64 h.stage.y, .slice lo ls.length co]) ⟨[], h.stage, lo, ls.length, co, ls⟩) := ⟨HB8.out, own_keep HN.out.lv fun g A y e => KK g A _ y (by decide) e, fun l hl => (HN.out.levs l hl).keep fun g A T y _ h2 e => KK g A T y h2 e, HN.out.apt, by show ls.length ≤ 12; rw [HLN.out]; exact hln⟩
    have HEQ : Hid (mH [] ⟨[], h.stage, lo, ls.length, co, ls⟩ = mH pre h) := by
      show _ = _
      unfold mH
      have := HN.out.eq
      rw [hne, ← HLL.out, List.take_length] at this
      rw [this]
    clear HN KK hne2
    refine wp_seq_k (fun K hK => ?_);refine region_sk [0] [1] hF fun C hC => ?_;clear hF;refine zs1 7 rfl rfl ?_;refine hC _ (fun a hF => ?_);clear hC C;refine seq_one ?_;refine op_storev rfl rfl hF rfl rfl rfl rfl hSV ?_;clear hF;refine fun a hF => ?_;refine seq_end ?_;replace hF := hF.kp [6] rfl
    clear hSV o0 o1 o2 o3
    refine hK _ _ ?_;clear hK;(try clear K)
    generalize wi.setRow gp #[.string ⟨#[]⟩, .int .i64 h.stage.x, .int .i64 h.stage.y, .slice lo ls.length co] = w9 at *
    have hlv : (loadVar 26 ⟨gp, 0, none⟩).run Try.prog w9 = .ok (.agg #[.string ⟨#[]⟩, .int .i64 h.stage.x, .int .i64 h.stage.y, .slice lo ls.length co]) w9 := by
      have d0 : w9.cell? ⟨gp, 0, none⟩ = some (.string ⟨#[]⟩) := boxed_cell (j := 0) hrow rfl
      have d1 : w9.cell? ⟨gp, 1, none⟩ = some (.int .i64 h.stage.x) := boxed_cell (j := 1) hrow rfl
      have d2 : w9.cell? ⟨gp, 2, none⟩ = some (.int .i64 h.stage.y) := boxed_cell (j := 2) hrow rfl
      have d3 : w9.cell? ⟨gp, 3, none⟩ = some (.slice lo ls.length co) := boxed_cell (j := 3) hrow rfl
      clear hF
      go_simp
    refine wp_ret ?_
    (try simp only [then_ret, block_ret, goto_ret])
    exact ret_cell (fn := Try.f16) rfl hF rfl hlv ⟨_, rfl, HNH.out, HEQ.out, rfl⟩
  have hlti : (n : Int) < (h.ln : Nat) := by omega
  refine region_sk [0, 1, 2, 3, 4] [] hF fun C hC => ?_;clear hF;refine zm rfl rfl rfl ?_;refine zs1 3 rfl rfl ?_;refine zs1 23 rfl rfl ?_;refine zs1 24 rfl rfl ?_;refine zs2 22 25 rfl rfl rfl ?_;refine hC _ (fun a hF => ?_);clear hC C;refine seq_end ?_;replace hF := hF.kp [1, 2, 3, 6, 7, 8, 26] rfl;refine hK _ _ ?_;clear hK;(try clear K)
  refine cond_yes hF rfl ?_
  refine wp_skip ?_
  refine hK _ _ ?_;clear hK;(try clear K);replace hF := hF.kp [1, 2, 3, 6, 7, 8] rfl
  clear hKA
  have hnl : n < h.levels.length := by rw [HLL.out]; exact hlt
  refine seq_cut (fun a' w' => ∃ (ls : List LevR) (lo : Option Addr) (co : Nat), FrF 122 [] [(1, .string (bs pre)), (2, .int .i64 y), (3, .pointer (some ⟨gh, 0, none⟩)), (6, .pointer (some ⟨gp, 0, none⟩)), (7, .pointer (some ⟨go, 0, none⟩)), (8, .int .i64 n)] a' ∧ Hid (NSt w w' h gh gp go pre (n + 1) ls lo co)) (fun KC hKC => ?_) ?_
  rotate_left
  · clear hF HN c0 c1 c2 c3
    rintro a w' ⟨ls, lo, co, hF, HN⟩
    have hws : IntKind.i64.wrap ((n : Int) + 1) = ((n + 1 : Nat) : Int) := wrap_succ (by omega)
    refine region_sk [0, 1, 2] [] hF fun C hC => ?_;clear hF;refine zm rfl rfl rfl ?_;refine zs1 27 rfl rfl ?_;refine za rfl rfl rfl ?_;refine hC _ (fun a hF => ?_);clear hC C;refine seq_end ?_;replace hF := hF.kp [1, 2, 3, 6, 7, 8] rfl
    exact hKB (h.ln - (n + 1)) _ _ (by omega) ⟨n + 1, ls, lo, co, by omega, hF, HN⟩
  clear hKB hnk
  have HSZ : Hid (w.heap.size ≤ wi.heap.size) := HN.out.below.size
  have HAT := Lib.hid HN.out.at
  obtain ⟨bl, ol, hll, l0, l1, l2, l3, l4, l5, l6, l7⟩ := lev_at (HIN.out.below HN.out.below).levels n hlt hnl
  have HLI : Hid (h.levels[n].In w) := HIN.out.lev _ (List.getElem_mem hnl)
  have HLM : Hid (LevNm h.levels[n]) := HNM.out _ (List.getElem_mem hnl)
  have HLS : Hid (h.levels[n].Sm) := HSM.out.lev _ (List.getElem_mem hnl)
  have HRN : Hid (∀ b ∈ h.levels[n].blocks, b.rn ≤ 8) := HSM.out.rn _ (List.getElem_mem hnl)
  have HMN : Hid (∀ b ∈ h.levels[n].blocks, ∀ r ∈ b.rows, r.mn ≤ 1000) := HSM.out.mn _ (List.getElem_mem hnl)
  have HPU := Lib.hid (fun (l : LevR) (hl : NLev w wi l) => hl)
  rw [hll] at c3
  obtain ⟨l, hl⟩ : ∃ l, l = h.levels[n] := ⟨_, rfl⟩
  have HLE := Lib.hid hl
  rw [← hl] at l0 l1 l2 l3 l4 l5 l6 l7 HLI HLM HLS HRN HMN
  clear hl HPU
  refine wp_block ?_
  refine wp_seq_k (fun K hK => ?_);refine region_sk [0, 1, 2, 3, 4] [5, 6] hF fun C hC => ?_;clear hF;refine zs1 3 rfl rfl ?_;refine zs1 29 rfl rfl ?_;refine zm rfl rfl rfl ?_;refine zs2 30 31 rfl rfl rfl ?_;refine zs1 32 rfl rfl ?_;refine hC _ (fun a hF => ?_);clear hC C;refine seq_one ?_;refine ze0 rfl rfl rfl hF rfl ?_;clear hF;refine fun a hF => ?_
  have hs0 : (wi.alloc (.cells #[.string ⟨#[]⟩, .int .i64 0, .slice none 0 0, .slice none 0 0, .slice none 0 0, .slice none 0 0, .slice none 0 0, .int .i64 0] 43)).heap[wi.heap.size]? = some (.cells #[.string ⟨#[]⟩, .int .i64 0, .slice none 0 0, .slice none 0 0, .slice none 0 0, .slice none 0 0, .slice none 0 0, .int .i64 0] 43 (0, 0)) := World.alloc_heap_new _ _
  have hb1 := Joins.below_alloc1 wi (.cells #[.string ⟨#[]⟩, .int .i64 0, .slice none 0 0, .slice none 0 0, .slice none 0 0, .slice none 0 0, .slice none 0 0, .int .i64 0] 43)
  generalize wi.alloc (.cells #[.string ⟨#[]⟩, .int .i64 0, .slice none 0 0, .slice none 0 0, .slice none 0 0, .slice none 0 0, .slice none 0 0, .int .i64 0] 43) = wa at *
  obtain ⟨gl, hgv⟩ : ∃ g, g = wi.heap.size := ⟨_, rfl⟩
  have hgw : wi.heap.size ≤ gl := Nat.le_of_eq hgv.symm
  rw [← hgv] at hF hs0
  clear hgv
  have hSV := run_storeVar_row (P := Try.prog) wa gl 43 43 #[.string ⟨#[]⟩, .int .i64 0, .slice none 0 0, .slice none 0 0, .slice none 0 0, .slice none 0 0, .slice none 0 0, .int .i64 0] #[.string (bs l.name), .int .i64 l.height, .slice l.ba l.bn l.bc, .slice l.aa l.an l.ac, .slice l.sa l.sn l.sc, .slice l.pa l.pn l.pc, .slice l.da l.dn l.dc, .int .i64 l.at'] hs0 (by kernel_rfl) rfl (by simp [Value.oneCell'])
  have hs2 := setRow_heap wa gl #[.string ⟨#[]⟩, .int .i64 0, .slice none 0 0, .slice none 0 0, .slice none 0 0, .slice none 0 0, .slice none 0 0, .int .i64 0] #[.string (bs l.name), .int .i64 l.height, .slice l.ba l.bn l.bc, .slice l.aa l.an l.ac, .slice l.sa l.sn l.sc, .slice l.pa l.pn l.pc, .slice l.da l.dn l.dc, .int .i64 l.at'] 43 (0, 0) hs0
  have hb2 : Below wi.heap.size wi (wa.setRow gl #[.string (bs l.name), .int .i64 l.height, .slice l.ba l.bn l.bc, .slice l.aa l.an l.ac, .slice l.sa l.sn l.sc, .slice l.pa l.pn l.pc, .slice l.da l.dn l.dc, .int .i64 l.at']) := below_setRow hb1 hgw #[.string (bs l.name), .int .i64 l.height, .slice l.ba l.bn l.bc, .slice l.aa l.an l.ac, .slice l.sa l.sn l.sc, .slice l.pa l.pn l.pc, .slice l.da l.dn l.dc, .int .i64 l.at']
  have HTW := Lib.hid (And.intro hb2 (And.intro hs2 hgw))
  clear hs0 hb1 hs2 hb2 hgw
  refine seq_one ?_;refine op_storev rfl rfl hF rfl rfl rfl rfl hSV ?_;clear hF;refine fun a hF => ?_
  clear hSV
  refine hK _ _ ?_;clear hK;(try clear K)
  generalize wa.setRow gl #[.string (bs l.name), .int .i64 l.height, .slice l.ba l.bn l.bc, .slice l.aa l.an l.ac, .slice l.sa l.sn l.sc, .slice l.pa l.pn l.pc, .slice l.da l.dn l.dc, .int .i64 l.at'] = w5 at *
  clear c0 c1 c2 c3 l0 l1 l2 l3 l4 l5 l6 l7
  have HL5 : Hid (LevIn w5 gl l) := HTW.out.2.1
  have HB5 : Hid (Below wi.heap.size wi w5) := HTW.out.1
  have HGL : Hid (wi.heap.size ≤ gl) := HTW.out.2.2
  clear HTW
  obtain ⟨l0, _, _, _, _, _, _, _⟩ := HL5.out.cells
  have f0 := free_var (o := 0) HL5.out
  have hba : bs pre ++ bs l.name = bs (pre ++ l.name) := bs_append _ _
  have hcat : ¬ 9223372036854775807 < (bs pre).size + (bs l.name).size := by
    have h1 : l.name.length ≤ 140737488351232 := HLM.out.1
    have h2 : pre.length ≤ 140737488351232 := HPR.out
    rw [bs_size, bs_size]
    omega
  have HL6 : Hid (LevIn (w5.setCell ⟨gl, 0, none⟩ (.string (bs (pre ++ l.name)))) gl { l with name := pre ++ l.name }) := HL5.out.setName _
  have HB6 : Hid (Below wi.heap.size wi (w5.setCell ⟨gl, 0, none⟩ (.string (bs (pre ++ l.name))))) := HB5.out.trans (below_set HGL.out)
  refine wp_seq_k (fun K hK => ?_);refine region_sk [0, 1, 2, 3, 4] [5] hF fun C hC => ?_;clear hF;refine zm rfl rfl rfl ?_;refine zs1 9 rfl rfl ?_;refine zs1 35 rfl rfl ?_;refine zs2 34 36 rfl rfl rfl ?_;refine zs1 9 rfl rfl ?_;refine hC _ (fun a hF => ?_);clear hC C;refine seq_one ?_;refine zu2 37 38 rfl rfl hF rfl rfl rfl ?_;clear hF;refine fun a hF => ?_;refine seq_end ?_;replace hF := hF.kp [1, 2, 3, 6, 7, 8, 9] rfl
  clear l0 f0 hcat hba HL5 HB5
  refine hK _ _ ?_;clear hK;(try clear K)
  generalize w5.setCell ⟨gl, 0, none⟩ (.string (bs (pre ++ l.name))) = w6 at *
  obtain ⟨_, _, _, _, _, _, _, l7⟩ := HL6.out.cells
  have f7 := free_var (o := 7) HL6.out
  have HL7 : Hid (LevIn (w6.setCell ⟨gl, 7, none⟩ (.int .i64 (IntKind.i64.wrap (l.at' + y)))) gl { l with name := pre ++ l.name, at' := IntKind.i64.wrap (l.at' + y) }) := HL6.out.setAt _
  have HB7 : Hid (Below wi.heap.size wi (w6.setCell ⟨gl, 7, none⟩ (.int .i64 (IntKind.i64.wrap (l.at' + y))))) := HB6.out.trans (below_set HGL.out)
  refine wp_seq_k (fun K hK => ?_);refine region_sk [0, 1, 2, 3, 4] [5] hF fun C hC => ?_;clear hF;refine zs1 9 rfl rfl ?_;refine zs1 39 rfl rfl ?_;refine zm rfl rfl rfl ?_;refine zs2 40 41 rfl rfl rfl ?_;refine zs1 9 rfl rfl ?_;refine hC _ (fun a hF => ?_);clear hC C;refine seq_one ?_;refine zu2 42 43 rfl rfl hF rfl rfl rfl ?_;clear hF;refine fun a hF => ?_;refine seq_end ?_;replace hF := hF.kp [1, 2, 3, 6, 7, 8, 9] rfl
  clear l7 f7 HL6 HB6
  refine hK _ _ ?_;clear hK;(try clear K)
  generalize w6.setCell ⟨gl, 7, none⟩ (.int .i64 (IntKind.i64.wrap (l.at' + y))) = wB at *
  generalize IntKind.i64.wrap (l.at' + y) = at2 at *
  refine wp_seq_k (fun K hK => ?_);refine region_sk [0] [] hF fun C hC => ?_;clear hF;refine za rfl rfl rfl ?_;refine hC _ (fun a hF => ?_);clear hC C;refine seq_end ?_;replace hF := hF.kp [1, 2, 3, 6, 7, 8, 9, 10] rfl;refine hK _ _ ?_;clear hK;(try clear K)
  have HWB : Hid (Below w.heap.size w wB) := HN.out.below.trans (HB7.out.mono HSZ.out)
  have HBL : Hid (l.blocks.length = l.bn) := HLI.out.blocks.1
  have HAL : Hid (l.areas.length = l.an) := HLI.out.areas.1
  have hbn : l.bn ≤ 6 := HLS.out.b
  have han : l.an ≤ 60 := by have := HLS.out.rest; omega
  have HGB : Hid (gl < wB.heap.size) := lt_of_block HL7.out
  -- the blocks
  refine seq_cut (fun a' w' => ∃ (bs' : List BlkR) (lb : Option Addr) (cb : Nat), FrF 122 [] [(1, .string (bs pre)), (2, .int .i64 y), (3, .pointer (some ⟨gh, 0, none⟩)), (6, .pointer (some ⟨gp, 0, none⟩)), (7, .pointer (some ⟨go, 0, none⟩)), (8, .int .i64 n), (9, .pointer (some ⟨gl, 0, none⟩)), (10, .slice lb l.bn cb)] a' ∧ Hid (BSt w wB w' pre l l.bn bs' lb cb)) (fun KD hKD => ?_) ?_
  · have HBS : Hid (BSt w wB wB pre l 0 [] none 0) := BSt.start _ _ _ _
    refine wp_seq_k (fun K hK => ?_);refine region_sk [0] [] hF fun C hC => ?_;clear hF;refine za rfl rfl rfl ?_;refine hC _ (fun a hF => ?_);clear hC C;refine seq_end ?_;replace hF := hF.kp [1, 2, 3, 6, 7, 8, 9, 10, 11] rfl;refine hK _ _ ?_;clear hK;(try clear K)
    refine wp_block ?_
    refine loop_fr (fun q a' w' => ∃ (i : Nat) (bs' : List BlkR) (lb : Option Addr) (cb : Nat), i + q = l.bn ∧ FrF 122 [] [(1, .string (bs pre)), (2, .int .i64 y), (3, .pointer (some ⟨gh, 0, none⟩)), (6, .pointer (some ⟨gp, 0, none⟩)), (7, .pointer (some ⟨go, 0, none⟩)), (8, .int .i64 n), (9, .pointer (some ⟨gl, 0, none⟩)), (10, .slice lb i cb), (11, .int .i64 i)] a' ∧ Hid (BSt w wB w' pre l i bs' lb cb)) l.bn ⟨0, [], none, 0, by omega, hF, HBS⟩ ?_
    clear hF HBS
    rintro rj a wj ⟨i, bs', lb, cb, hik, hF, HS⟩ KE hKE
    refine wp_seq_k (fun K hK => ?_);refine wp_seq_k (fun K hK => ?_)
    have HLj : Hid (LevIn wj gl { l with name := pre ++ l.name, at' := at2 }) := HL7.out.down HS.out.below
    obtain ⟨_, _, q2, _, _, _, _, _⟩ := HLj.out.cells
    have l2 : wj.cell? ⟨gl, 2, none⟩ = some (.slice l.ba l.bn l.bc) := q2
    clear q2 HLj
    by_cases hlb : i < l.bn
    rotate_left
    · have hlbi : ¬ (i : Int) < (l.bn : Nat) := by omega
      refine region_sk [0, 1, 2, 3, 4] [] hF fun C hC => ?_;clear hF;refine zm rfl rfl rfl ?_;refine zs1 9 rfl rfl ?_;refine zs1 45 rfl rfl ?_;refine zs1 46 rfl rfl ?_;refine zs2 44 47 rfl rfl rfl ?_;refine hC _ (fun a hF => ?_);clear hC C;refine seq_end ?_;replace hF := hF.kp [1, 2, 3, 6, 7, 8, 9, 10, 11, 48] rfl
      clear l2
      refine hK _ _ ?_;clear hK;(try clear K)
      refine cond_no hF rfl ?_
      refine wp_exit ?_
      have hie : i = l.bn := by omega
      rw [hie] at hF HS
      exact hKD _ _ ⟨bs', lb, cb, hF.sub ⟨rfl, rfl, rfl, rfl, rfl, rfl, rfl, rfl, trivial⟩, HS⟩
    have hlbi : (i : Int) < (l.bn : Nat) := by omega
    refine region_sk [0, 1, 2, 3, 4] [] hF fun C hC => ?_;clear hF;refine zm rfl rfl rfl ?_;refine zs1 9 rfl rfl ?_;refine zs1 45 rfl rfl ?_;refine zs1 46 rfl rfl ?_;refine zs2 44 47 rfl rfl rfl ?_;refine hC _ (fun a hF => ?_);clear hC C;refine seq_end ?_;replace hF := hF.kp [1, 2, 3, 6, 7, 8, 9, 10, 11, 48] rfl;refine hK _ _ ?_;clear hK;(try clear K)
    refine cond_yes hF rfl ?_
    refine wp_skip ?_
    refine hK _ _ ?_;clear hK;(try clear K);replace hF := hF.kp [1, 2, 3, 6, 7, 8, 9, 10, 11] rfl
    clear hKD
    have hil : i < l.blocks.length := by rw [HBL.out]; exact hlb
    refine seq_cut (fun a' w' => ∃ (bs' : List BlkR) (lb : Option Addr) (cb : Nat), FrF 122 [] [(1, .string (bs pre)), (2, .int .i64 y), (3, .pointer (some ⟨gh, 0, none⟩)), (6, .pointer (some ⟨gp, 0, none⟩)), (7, .pointer (some ⟨go, 0, none⟩)), (8, .int .i64 n), (9, .pointer (some ⟨gl, 0, none⟩)), (10, .slice lb (i + 1) cb), (11, .int .i64 i)] a' ∧ Hid (BSt w wB w' pre l (i + 1) bs' lb cb)) (fun KF hKF => ?_) ?_
    rotate_left
    · clear hF HS l2
      rintro a w' ⟨bs', lb, cb, hF, HS⟩
      have hws : IntKind.i64.wrap ((i : Int) + 1) = ((i + 1 : Nat) : Int) := wrap_succ (by omega)
      refine region_sk [0, 1, 2] [] hF fun C hC => ?_;clear hF;refine zm rfl rfl rfl ?_;refine zs1 49 rfl rfl ?_;refine za rfl rfl rfl ?_;refine hC _ (fun a hF => ?_);clear hC C;refine seq_end ?_;replace hF := hF.kp [1, 2, 3, 6, 7, 8, 9, 10, 11] rfl
      exact hKE (l.bn - (i + 1)) _ _ (by omega) ⟨i + 1, bs', lb, cb, by omega, hF, HS⟩
    clear hKE hik
    have HWj : Hid (Below w.heap.size w wj) := HWB.out.trans (HS.out.below.mono HWB.out.size)
    have HSL : Hid (bs'.length = i) := HS.out.len (Nat.le_of_lt hil)
    have HWZ : Hid (wB.heap.size ≤ wj.heap.size ∧ w.heap.size ≤ wj.heap.size) := ⟨HS.out.below.size, HWj.out.size⟩
    have HBA : Hid (∀ b ∈ bs', ∀ g, rowsAt b = some g → g < wj.heap.size) := fun b hb g hg => ((HS.out.bk b hb).at hg).2
    obtain ⟨bB, oB, hbb, b0, b1, b2⟩ := blk_at (HLI.out.below HWj.out).blocks i hlb hil
    have HBI : Hid (l.blocks[i].In w) := HLI.out.blk _ (List.getElem_mem hil)
    have HBM : Hid (BlkNm l.blocks[i]) := HLM.out.2.1 _ (List.getElem_mem hil)
    have HBN : Hid (l.blocks[i].rn ≤ 8) := HRN.out _ (List.getElem_mem hil)
    have HBR : Hid (∀ r ∈ l.blocks[i].rows, r.mn ≤ 1000) := HMN.out _ (List.getElem_mem hil)
    rw [hbb] at l2
    obtain ⟨b, hb⟩ : ∃ b, b = l.blocks[i] := ⟨_, rfl⟩
    have HBE := Lib.hid hb
    rw [← hb] at b0 b1 b2 HBI HBM HBN HBR
    clear hb hbb
    refine wp_block ?_
    refine wp_seq_k (fun K hK => ?_);refine region_sk [0, 1, 2, 3, 4] [5, 6] hF fun C hC => ?_;clear hF;refine zs1 9 rfl rfl ?_;refine zs1 51 rfl rfl ?_;refine zm rfl rfl rfl ?_;refine zs2 52 53 rfl rfl rfl ?_;refine zs1 54 rfl rfl ?_;refine hC _ (fun a hF => ?_);clear hC C;refine seq_one ?_;refine ze0 rfl rfl rfl hF rfl ?_;clear hF;refine fun a hF => ?_
    have hs0 : (wj.alloc (.cells #[.string ⟨#[]⟩, .slice none 0 0, .int .i64 0] 57)).heap[wj.heap.size]? = some (.cells #[.string ⟨#[]⟩, .slice none 0 0, .int .i64 0] 57 (0, 0)) := World.alloc_heap_new _ _
    have hb1 := Joins.below_alloc1 wj (.cells #[.string ⟨#[]⟩, .slice none 0 0, .int .i64 0] 57)
    generalize wj.alloc (.cells #[.string ⟨#[]⟩, .slice none 0 0, .int .i64 0] 57) = wa at *
    obtain ⟨gb, hgv⟩ : ∃ g, g = wj.heap.size := ⟨_, rfl⟩
    have hgw : wj.heap.size ≤ gb := Nat.le_of_eq hgv.symm
    rw [← hgv] at hF hs0
    clear hgv
    have hSV := run_storeVar_row (P := Try.prog) wa gb 57 57 #[.string ⟨#[]⟩, .slice none 0 0, .int .i64 0] #[.string (bs b.name), .slice b.ra b.rn b.rc, .int .i64 b.at'] hs0 (by kernel_rfl) rfl (by simp [Value.oneCell'])
    have hs2 := setRow_heap wa gb #[.string ⟨#[]⟩, .slice none 0 0, .int .i64 0] #[.string (bs b.name), .slice b.ra b.rn b.rc, .int .i64 b.at'] 57 (0, 0) hs0
    have hb2 : Below wj.heap.size wj (wa.setRow gb #[.string (bs b.name), .slice b.ra b.rn b.rc, .int .i64 b.at']) := below_setRow hb1 hgw #[.string (bs b.name), .slice b.ra b.rn b.rc, .int .i64 b.at']
    have HTW := Lib.hid (And.intro hb2 (And.intro hs2 hgw))
    clear hs0 hb1 hs2 hb2 hgw
    refine seq_one ?_;refine op_storev rfl rfl hF rfl rfl rfl rfl hSV ?_;clear hF;refine fun a hF => ?_
    clear hSV
    refine hK _ _ ?_;clear hK;(try clear K)
    generalize wa.setRow gb #[.string (bs b.name), .slice b.ra b.rn b.rc, .int .i64 b.at'] = v1 at *
    clear l2 b0 b1 b2
    have HK1 : Hid (BlkIn v1 gb b) := HTW.out.2.1
    have HB1 : Hid (Below wj.heap.size wj v1) := HTW.out.1
    have HGb : Hid (wj.heap.size ≤ gb) := HTW.out.2.2
    clear HTW
    obtain ⟨b0, _, _⟩ := HK1.out.cells
    have f0 := free_var (o := 0) HK1.out
    have hba : bs pre ++ bs b.name = bs (pre ++ b.name) := bs_append _ _
    have hcat : ¬ 9223372036854775807 < (bs pre).size + (bs b.name).size := by
      have h1 : b.name.length ≤ 140737488351232 := HBM.out.1
      have h2 : pre.length ≤ 140737488351232 := HPR.out
      rw [bs_size, bs_size]
      omega
    have HK2 : Hid (BlkIn (v1.setCell ⟨gb, 0, none⟩ (.string (bs (pre ++ b.name)))) gb { b with name := pre ++ b.name }) := HK1.out.setName _
    have HB2 : Hid (Below wj.heap.size wj (v1.setCell ⟨gb, 0, none⟩ (.string (bs (pre ++ b.name))))) := HB1.out.trans (below_set HGb.out)
    refine wp_seq_k (fun K hK => ?_);refine region_sk [0, 1, 2, 3, 4] [5] hF fun C hC => ?_;clear hF;refine zm rfl rfl rfl ?_;refine zs1 12 rfl rfl ?_;refine zs1 57 rfl rfl ?_;refine zs2 56 58 rfl rfl rfl ?_;refine zs1 12 rfl rfl ?_;refine hC _ (fun a hF => ?_);clear hC C;refine seq_one ?_;refine zu2 59 60 rfl rfl hF rfl rfl rfl ?_;clear hF;refine fun a hF => ?_;refine seq_end ?_;replace hF := hF.kp [1, 2, 3, 6, 7, 8, 9, 10, 11, 12] rfl
    clear b0 f0 hcat hba HK1 HB1
    refine hK _ _ ?_;clear hK;(try clear K)
    generalize v1.setCell ⟨gb, 0, none⟩ (.string (bs (pre ++ b.name))) = wA at *
    refine wp_seq_k (fun K hK => ?_);refine region_sk [0] [] hF fun C hC => ?_;clear hF;refine za rfl rfl rfl ?_;refine hC _ (fun a hF => ?_);clear hC C;refine seq_end ?_;replace hF := hF.kp [1, 2, 3, 6, 7, 8, 9, 10, 11, 12, 13] rfl;refine hK _ _ ?_;clear hK;(try clear K)
    have HBRL : Hid (b.rows.length = b.rn) := HBI.out.1.1
    have hrn := HBN.out
    have HWA : Hid (Below w.heap.size w wA) := HWj.out.trans (HB2.out.mono HWZ.out.2)
    have HZA : Hid (wj.heap.size ≤ wA.heap.size) := HB2.out.size
    -- the rows
    refine seq_cut (fun a' w' => ∃ (lr : Option Addr) (cr : Nat), FrF 122 [] [(1, .string (bs pre)), (2, .int .i64 y), (3, .pointer (some ⟨gh, 0, none⟩)), (6, .pointer (some ⟨gp, 0, none⟩)), (7, .pointer (some ⟨go, 0, none⟩)), (8, .int .i64 n), (9, .pointer (some ⟨gl, 0, none⟩)), (10, .slice lb i cb), (11, .int .i64 i), (12, .pointer (some ⟨gb, 0, none⟩)), (13, .slice lr b.rn cr)] a' ∧ Hid (Below wA.heap.size wA w' ∧ w'.ownsRow wA.heap.size 54 8 (.slice lr b.rn cr) b.rn (flat RowE ((b.rows.take b.rn).map (nmR pre y))))) (fun KG hKG => ?_) ?_
    · have HR0 : Hid (Below wA.heap.size wA wA ∧ wA.ownsRow wA.heap.size 54 8 (.slice none 0 0) 0 (flat RowE ((b.rows.take 0).map (nmR pre y)))) := ⟨Below.refl _ _, nil_row⟩
      refine wp_seq_k (fun K hK => ?_);refine region_sk [0] [] hF fun C hC => ?_;clear hF;refine za rfl rfl rfl ?_;refine hC _ (fun a hF => ?_);clear hC C;refine seq_end ?_;replace hF := hF.kp [1, 2, 3, 6, 7, 8, 9, 10, 11, 12, 13, 14] rfl;refine hK _ _ ?_;clear hK;(try clear K)
      refine wp_block ?_
      refine loop_fr (fun q a' w' => ∃ (k : Nat) (lr : Option Addr) (cr : Nat), k + q = b.rn ∧ FrF 122 [] [(1, .string (bs pre)), (2, .int .i64 y), (3, .pointer (some ⟨gh, 0, none⟩)), (6, .pointer (some ⟨gp, 0, none⟩)), (7, .pointer (some ⟨go, 0, none⟩)), (8, .int .i64 n), (9, .pointer (some ⟨gl, 0, none⟩)), (10, .slice lb i cb), (11, .int .i64 i), (12, .pointer (some ⟨gb, 0, none⟩)), (13, .slice lr k cr), (14, .int .i64 k)] a' ∧ Hid (Below wA.heap.size wA w' ∧ w'.ownsRow wA.heap.size 54 8 (.slice lr k cr) k (flat RowE ((b.rows.take k).map (nmR pre y))))) b.rn ⟨0, none, 0, by omega, hF, HR0⟩ ?_
      clear hF HR0
      rintro rh a wk ⟨k, lr, cr, hkk, hF, HR⟩ KH hKH
      refine wp_seq_k (fun K hK => ?_);refine wp_seq_k (fun K hK => ?_)
      obtain ⟨_, q1, _⟩ := (HK2.out.down HR.out.1).cells
      have b1 : wk.cell? ⟨gb, 1, none⟩ = some (.slice b.ra b.rn b.rc) := q1
      clear q1
      by_cases hlk : k < b.rn
      rotate_left
      · have hlki : ¬ (k : Int) < (b.rn : Nat) := by omega
        refine region_sk [0, 1, 2, 3, 4] [] hF fun C hC => ?_;clear hF;refine zm rfl rfl rfl ?_;refine zs1 12 rfl rfl ?_;refine zs1 62 rfl rfl ?_;refine zs1 63 rfl rfl ?_;refine zs2 61 64 rfl rfl rfl ?_;refine hC _ (fun a hF => ?_);clear hC C;refine seq_end ?_;replace hF := hF.kp [1, 2, 3, 6, 7, 8, 9, 10, 11, 12, 13, 14, 65] rfl
        clear b1
        refine hK _ _ ?_;clear hK;(try clear K)
        refine cond_no hF rfl ?_
        refine wp_exit ?_
        have hie : k = b.rn := by omega
        rw [hie] at hF HR
        exact hKG _ _ ⟨lr, cr, hF.sub ⟨rfl, rfl, rfl, rfl, rfl, rfl, rfl, rfl, rfl, rfl, rfl, trivial⟩, HR⟩
      have hlki : (k : Int) < (b.rn : Nat) := by omega
      refine region_sk [0, 1, 2, 3, 4] [] hF fun C hC => ?_;clear hF;refine zm rfl rfl rfl ?_;refine zs1 12 rfl rfl ?_;refine zs1 62 rfl rfl ?_;refine zs1 63 rfl rfl ?_;refine zs2 61 64 rfl rfl rfl ?_;refine hC _ (fun a hF => ?_);clear hC C;refine seq_end ?_;replace hF := hF.kp [1, 2, 3, 6, 7, 8, 9, 10, 11, 12, 13, 14, 65] rfl;refine hK _ _ ?_;clear hK;(try clear K)
      refine cond_yes hF rfl ?_
      refine wp_skip ?_
      refine hK _ _ ?_;clear hK;(try clear K);replace hF := hF.kp [1, 2, 3, 6, 7, 8, 9, 10, 11, 12, 13, 14] rfl
      clear hKG
      have hkl : k < b.rows.length := by rw [HBRL.out]; exact hlk
      have HTK := Lib.hid (take_map_next (nmR pre y) hkl)
      refine seq_cut (fun a' w' => ∃ (lr : Option Addr) (cr : Nat), FrF 122 [] [(1, .string (bs pre)), (2, .int .i64 y), (3, .pointer (some ⟨gh, 0, none⟩)), (6, .pointer (some ⟨gp, 0, none⟩)), (7, .pointer (some ⟨go, 0, none⟩)), (8, .int .i64 n), (9, .pointer (some ⟨gl, 0, none⟩)), (10, .slice lb i cb), (11, .int .i64 i), (12, .pointer (some ⟨gb, 0, none⟩)), (13, .slice lr (k + 1) cr), (14, .int .i64 k)] a' ∧ Hid (Below wA.heap.size wA w' ∧ w'.ownsRow wA.heap.size 54 8 (.slice lr (k + 1) cr) (k + 1) (flat RowE ((b.rows.take (k + 1)).map (nmR pre y))))) (fun KI hKI => ?_) ?_
      rotate_left
      · clear hF HR b1
        rintro a w' ⟨lr, cr, hF, HR⟩
        have hws : IntKind.i64.wrap ((k : Int) + 1) = ((k + 1 : Nat) : Int) := wrap_succ (by omega)
        refine region_sk [0, 1, 2] [] hF fun C hC => ?_;clear hF;refine zm rfl rfl rfl ?_;refine zs1 66 rfl rfl ?_;refine za rfl rfl rfl ?_;refine hC _ (fun a hF => ?_);clear hC C;refine seq_end ?_;replace hF := hF.kp [1, 2, 3, 6, 7, 8, 9, 10, 11, 12, 13, 14] rfl
        exact hKH (b.rn - (k + 1)) _ _ (by omega) ⟨k + 1, lr, cr, by omega, hF, HR⟩
      clear hKH hkk
      obtain ⟨bR, oR, hrr, r0, r1, r2, r3, r4, r5, r6, r7⟩ := row_at (HBI.out.below (HWA.out.trans (HR.out.1.mono HWA.out.size))).1 k hlk hkl
      have HRM : Hid (b.rows[k].name.length ≤ NB) := HBM.out.2 _ (List.getElem_mem hkl)
      rw [hrr] at b1
      generalize b.rows[k] = r at *
      clear hrr
      refine wp_block ?_
      refine wp_seq_k (fun K hK => ?_);refine region_sk [0, 1, 2, 3, 4] [5, 6] hF fun C hC => ?_;clear hF;refine zs1 12 rfl rfl ?_;refine zs1 68 rfl rfl ?_;refine zm rfl rfl rfl ?_;refine zs2 69 70 rfl rfl rfl ?_;refine zs1 71 rfl rfl ?_;refine hC _ (fun a hF => ?_);clear hC C;refine seq_one ?_;refine ze0 rfl rfl rfl hF rfl ?_;clear hF;refine fun a hF => ?_
      have hs0 : (wk.alloc (.cells #[.string ⟨#[]⟩, .int .i64 0, .int .i64 0, .int .i64 0, .int .i64 0, .int .i64 0, .slice none 0 0, .int .i64 0] 54)).heap[wk.heap.size]? = some (.cells #[.string ⟨#[]⟩, .int .i64 0, .int .i64 0, .int .i64 0, .int .i64 0, .int .i64 0, .slice none 0 0, .int .i64 0] 54 (0, 0)) := World.alloc_heap_new _ _
      have hb1 := Joins.below_alloc1 wk (.cells #[.string ⟨#[]⟩, .int .i64 0, .int .i64 0, .int .i64 0, .int .i64 0, .int .i64 0, .slice none 0 0, .int .i64 0] 54)
      generalize wk.alloc (.cells #[.string ⟨#[]⟩, .int .i64 0, .int .i64 0, .int .i64 0, .int .i64 0, .int .i64 0, .slice none 0 0, .int .i64 0] 54) = wa at *
      obtain ⟨gr, hgv⟩ : ∃ g, g = wk.heap.size := ⟨_, rfl⟩
      have hgw : wk.heap.size ≤ gr := Nat.le_of_eq hgv.symm
      rw [← hgv] at hF hs0
      clear hgv
      have hSV := run_storeVar_row (P := Try.prog) wa gr 54 54 #[.string ⟨#[]⟩, .int .i64 0, .int .i64 0, .int .i64 0, .int .i64 0, .int .i64 0, .slice none 0 0, .int .i64 0] #[.string (bs r.name), .int .i64 r.x, .int .i64 r.y, .int .i64 r.fr, .int .i64 r.to, .int .i64 r.step, .slice r.ma r.mn r.mc, .int .i64 r.at'] hs0 (by kernel_rfl) rfl (by simp [Value.oneCell'])
      have hs2 := setRow_heap wa gr #[.string ⟨#[]⟩, .int .i64 0, .int .i64 0, .int .i64 0, .int .i64 0, .int .i64 0, .slice none 0 0, .int .i64 0] #[.string (bs r.name), .int .i64 r.x, .int .i64 r.y, .int .i64 r.fr, .int .i64 r.to, .int .i64 r.step, .slice r.ma r.mn r.mc, .int .i64 r.at'] 54 (0, 0) hs0
      have hb2 : Below wk.heap.size wk (wa.setRow gr #[.string (bs r.name), .int .i64 r.x, .int .i64 r.y, .int .i64 r.fr, .int .i64 r.to, .int .i64 r.step, .slice r.ma r.mn r.mc, .int .i64 r.at']) := below_setRow hb1 hgw #[.string (bs r.name), .int .i64 r.x, .int .i64 r.y, .int .i64 r.fr, .int .i64 r.to, .int .i64 r.step, .slice r.ma r.mn r.mc, .int .i64 r.at']
      have HTW := Lib.hid (And.intro hb2 (And.intro hs2 hgw))
      clear hs0 hb1 hs2 hb2 hgw
      refine seq_one ?_;refine op_storev rfl rfl hF rfl rfl rfl rfl hSV ?_;clear hF;refine fun a hF => ?_
      clear hSV
      refine hK _ _ ?_;clear hK;(try clear K)
      generalize wa.setRow gr #[.string (bs r.name), .int .i64 r.x, .int .i64 r.y, .int .i64 r.fr, .int .i64 r.to, .int .i64 r.step, .slice r.ma r.mn r.mc, .int .i64 r.at'] = v3 at *
      clear b1 r0 r1 r2 r3 r4 r5 r6 r7
      have HR1 : Hid (RowIn v3 gr r) := HTW.out.2.1
      have HO1 : Hid (v3.ownsRow wA.heap.size 54 8 (.slice lr k cr) k (flat RowE ((b.rows.take k).map (nmR pre y)))) := own_keep HR.out.2 fun g A x e => below_keep HTW.out.1 g A _ x e
      have HD1 : Hid (Below wA.heap.size wA v3) := HR.out.1.trans (HTW.out.1.mono HR.out.1.size)
      have HGr : Hid (wA.heap.size ≤ gr) := Nat.le_trans HR.out.1.size HTW.out.2.2
      have HNE : Hid (∀ g, (Value.slice lr k cr).ownBlock = some g → g ≠ gr) := fun g hg => by
        have h1 := (HR.out.2.lt g hg).2
        have h2 := HTW.out.2.2
        omega
      clear HTW HR
      obtain ⟨r0, _, _, _, _, _, _, _⟩ := HR1.out.cells
      have f0 := free_var (o := 0) HR1.out
      have hba : bs pre ++ bs r.name = bs (pre ++ r.name) := bs_append _ _
      have hcat : ¬ 9223372036854775807 < (bs pre).size + (bs r.name).size := by
        have h1 : r.name.length ≤ 140737488351232 := HRM.out
        have h2 : pre.length ≤ 140737488351232 := HPR.out
        rw [bs_size, bs_size]
        omega
      have HR2 : Hid (RowIn (v3.setCell ⟨gr, 0, none⟩ (.string (bs (pre ++ r.name)))) gr { r with name := pre ++ r.name }) := HR1.out.setName _
      have HO2 : Hid ((v3.setCell ⟨gr, 0, none⟩ (.string (bs (pre ++ r.name)))).ownsRow wA.heap.size 54 8 (.slice lr k cr) k (flat RowE ((b.rows.take k).map (nmR pre y)))) := row_of_heap HO1.out fun g hg => set_other (HNE.out g hg)
      have HD2 : Hid (Below wA.heap.size wA (v3.setCell ⟨gr, 0, none⟩ (.string (bs (pre ++ r.name))))) := HD1.out.trans (below_set HGr.out)
      refine wp_seq_k (fun K hK => ?_);refine region_sk [0, 1, 2, 3, 4] [5] hF fun C hC => ?_;clear hF;refine zm rfl rfl rfl ?_;refine zs1 15 rfl rfl ?_;refine zs1 74 rfl rfl ?_;refine zs2 73 75 rfl rfl rfl ?_;refine zs1 15 rfl rfl ?_;refine hC _ (fun a hF => ?_);clear hC C;refine seq_one ?_;refine zu2 76 77 rfl rfl hF rfl rfl rfl ?_;clear hF;refine fun a hF => ?_;refine seq_end ?_;replace hF := hF.kp [1, 2, 3, 6, 7, 8, 9, 10, 11, 12, 13, 14, 15] rfl
      clear r0 f0 hcat hba HR1 HO1 HD1
      refine hK _ _ ?_;clear hK;(try clear K)
      generalize v3.setCell ⟨gr, 0, none⟩ (.string (bs (pre ++ r.name))) = v4 at *
      obtain ⟨_, _, _, _, _, _, _, r7⟩ := HR2.out.cells
      have f7 := free_var (o := 7) HR2.out
      have HR3 : Hid (RowIn (v4.setCell ⟨gr, 7, none⟩ (.int .i64 y)) gr (nmR pre y r)) := HR2.out.setAt y
      have HO3 : Hid ((v4.setCell ⟨gr, 7, none⟩ (.int .i64 y)).ownsRow wA.heap.size 54 8 (.slice lr k cr) k (flat RowE ((b.rows.take k).map (nmR pre y)))) := row_of_heap HO2.out fun g hg => set_other (HNE.out g hg)
      have HD3 : Hid (Below wA.heap.size wA (v4.setCell ⟨gr, 7, none⟩ (.int .i64 y))) := HD2.out.trans (below_set HGr.out)
      refine wp_seq_k (fun K hK => ?_);refine region_sk [0, 1] [2] hF fun C hC => ?_;clear hF;refine zm rfl rfl rfl ?_;refine zs1 15 rfl rfl ?_;refine hC _ (fun a hF => ?_);clear hC C;refine seq_one ?_;refine zu2 78 79 rfl rfl hF rfl rfl rfl ?_;clear hF;refine fun a hF => ?_;refine seq_end ?_;replace hF := hF.kp [1, 2, 3, 6, 7, 8, 9, 10, 11, 12, 13, 14, 15] rfl
      clear r7 f7 HR2 HO2 HD2 HNE HGr
      refine hK _ _ ?_;clear hK;(try clear K)
      generalize v4.setCell ⟨gr, 7, none⟩ (.int .i64 y) = v5 at *
      generalize nmR pre y r = x at *
      obtain ⟨x0, x1, x2, x3, x4, x5, x6, x7⟩ := HR3.out.cells
      refine region_sk [0, 1] [2, 3, 4] hF fun C hC => ?_;clear hF;refine zm rfl rfl rfl ?_;refine zs1 15 rfl rfl ?_;refine hC _ (fun a hF => ?_);clear hC C;refine seq_one ?_;refine ze1 81 rfl rfl rfl hF rfl rfl ?_;clear hF;refine fun a hF => ?_
      clear x0 x1 x2 x3 x4 x5 x6 x7
      have HX := Lib.hid (recs_alloc RowE v5 54 [x] #[.string (bs x.name), .int .i64 x.x, .int .i64 x.y, .int .i64 x.fr, .int .i64 x.to, .int .i64 x.step, .slice x.ma x.mn x.mc, .int .i64 x.at'] rfl)
      have HO4 : Hid ((v5.alloc (.cells #[.string (bs x.name), .int .i64 x.x, .int .i64 x.y, .int .i64 x.fr, .int .i64 x.to, .int .i64 x.step, .slice x.ma x.mn x.mc, .int .i64 x.at'] 54)).ownsRow wA.heap.size 54 8 (.slice lr k cr) k (flat RowE ((b.rows.take k).map (nmR pre y)))) := own_keep HO3.out fun g A z e => below_keep (Joins.below_alloc1 v5 _) g A _ z e
      have HD4 : Hid (Below wA.heap.size wA (v5.alloc (.cells #[.string (bs x.name), .int .i64 x.x, .int .i64 x.y, .int .i64 x.fr, .int .i64 x.to, .int .i64 x.step, .slice x.ma x.mn x.mc, .int .i64 x.at'] 54))) := HD3.out.trans ((Joins.below_alloc1 v5 _).mono HD3.out.size)
      clear HR3 HO3 HD3
      generalize v5.alloc (.cells #[.string (bs x.name), .int .i64 x.x, .int .i64 x.y, .int .i64 x.fr, .int .i64 x.to, .int .i64 x.step, .slice x.ma x.mn x.mc, .int .i64 x.at'] 54) = v6 at *
      obtain ⟨v', v7, hAPP, ho, hg, _⟩ := append_recs (E := RowE) 55 54 55 Try.underlying55 info_row rfl (by decide) HO4.out (u := .slice (some ⟨v5.heap.size, 0, none⟩) 1 1) ⟨_, _, rfl, HX.out, fun h => by cases h⟩ (by simp; omega) HD4.out.size
      obtain ⟨la4, lc4, rfl, _⟩ := OwnRecs.of_row ho
      have HD7 : Hid (Below wA.heap.size wA v7) := HD4.out.grown hg HD4.out.size (fun g hg => (HO4.out.lt g hg).1)
      have HO7 : Hid (v7.ownsRow wA.heap.size 54 8 (.slice la4 (k + 1) lc4) (k + 1) (flat RowE ((b.rows.take (k + 1)).map (nmR pre y)))) := by
        rw [HTK.out]
        exact ho
      have hk1 : k + [x].length = k + 1 := rfl
      rw [hk1] at hAPP
      clear HX HO4 HD4 ho hg hk1
      refine seq_one ?_;refine op_append rfl rfl rfl rfl rfl hF rfl rfl rfl hAPP (fun a hF => ?_);clear hAPP;refine seq_ck [4] [] hF fun C hC => ?_;clear hF;refine za rfl rfl rfl ?_;refine hC _ (fun a hF => ?_);clear hC C;refine seq_end ?_;replace hF := hF.kp [1, 2, 3, 6, 7, 8, 9, 10, 11, 12, 13, 14] rfl
      exact hKI _ _ ⟨la4, lc4, hF, And.intro HD7.out HO7.out⟩
    clear hF
    rintro a wR ⟨lr, cr, hF, HR⟩
    have hta : b.rows.take b.rn = b.rows := by rw [← HBRL.out, List.take_length]
    rw [hta] at HR
    clear hta
    have HKR : Hid (BlkIn wR gb { b with name := pre ++ b.name }) := HK2.out.down HR.out.1
    obtain ⟨_, q1, _⟩ := HKR.out.cells
    have f1 := free_var (o := 1) HKR.out
    have HK3 : Hid (BlkIn (wR.setCell ⟨gb, 1, none⟩ (.slice lr b.rn cr)) gb { b with name := pre ++ b.name, ra := lr, rn := b.rn, rc := cr, rows := b.rows.map (nmR pre y) }) := HKR.out.setRows _ _ _ _
    have HB3 : Hid (Below wj.heap.size wj (wR.setCell ⟨gb, 1, none⟩ (.slice lr b.rn cr))) := (HB2.out.trans (HR.out.1.mono HZA.out)).trans (below_set HGb.out)
    have HOW : Hid ((wR.setCell ⟨gb, 1, none⟩ (.slice lr b.rn cr)).ownsRow wA.heap.size 54 8 (.slice lr b.rn cr) b.rn (flat RowE (b.rows.map (nmR pre y)))) := own_keep HR.out.2 fun g A z e => set_other (type_ne e HKR.out (by decide))
    refine wp_seq_k (fun K hK => ?_);refine region_sk [0, 1] [2] hF fun C hC => ?_;clear hF;refine zm rfl rfl rfl ?_;refine zs1 12 rfl rfl ?_;refine hC _ (fun a hF => ?_);clear hC C;refine seq_one ?_;refine zu2 84 85 rfl rfl hF rfl rfl rfl ?_;clear hF;refine fun a hF => ?_;refine seq_end ?_;replace hF := hF.kp [1, 2, 3, 6, 7, 8, 9, 10, 11, 12] rfl
    clear q1 f1 HKR HR HB2 HK2 HWA HBM
    refine hK _ _ ?_;clear hK;(try clear K)
    generalize wR.setCell ⟨gb, 1, none⟩ (.slice lr b.rn cr) = v8 at *
    have HS8 := Lib.hid (HS.out.down HB3.out)
    have HNB : Hid (NBlk w v8 { b with name := pre ++ b.name, ra := lr, rn := b.rn, rc := cr, rows := b.rows.map (nmR pre y) }) := ⟨own_mono HOW.out (Nat.le_trans HWZ.out.2 HZA.out), fun r hr => by
      obtain ⟨r0, h0, rfl⟩ := List.mem_map.1 hr
      have h1 := HBI.out.2.2 r0 h0
      exact ⟨⟨h1.marks, h1.mn, h1.ma0, h1.step, h1.keys⟩, HBR.out r0 h0⟩, HBN.out⟩
    have HRA : Hid (∀ g, rowsAt { b with name := pre ++ b.name, ra := lr, rn := b.rn, rc := cr, rows := b.rows.map (nmR pre y) } = some g → wj.heap.size ≤ g) := fun g hg => Nat.le_trans HZA.out (HOW.out.lt g hg).1
    have HBQ : Hid (mB [] { b with name := pre ++ b.name, ra := lr, rn := b.rn, rc := cr, rows := b.rows.map (nmR pre y) } = mB pre l.blocks[i]) := by
      show _ = _
      rw [← HBE.out]
      unfold mB
      dsimp only
      rw [List.map_map]
      rfl
    clear HOW HB3 HZA HBI HBR HBN HBRL HBE HS
    generalize ({ b with name := pre ++ b.name, ra := lr, rn := b.rn, rc := cr, rows := b.rows.map (nmR pre y) } : BlkR) = x at *
    obtain ⟨x0, x1, x2⟩ := HK3.out.cells
    refine region_sk [0, 1] [2, 3, 4] hF fun C hC => ?_;clear hF;refine zm rfl rfl rfl ?_;refine zs1 12 rfl rfl ?_;refine hC _ (fun a hF => ?_);clear hC C;refine seq_one ?_;refine ze1 87 rfl rfl rfl hF rfl rfl ?_;clear hF;refine fun a hF => ?_
    clear x0 x1 x2
    have HX := Lib.hid (recs_alloc BlkE v8 57 [x] #[.string (bs x.name), .slice x.ra x.rn x.rc, .int .i64 x.at'] rfl)
    have HS9 : Hid (BSt w wB (v8.alloc (.cells #[.string (bs x.name), .slice x.ra x.rn x.rc, .int .i64 x.at'] 57)) pre l i bs' lb cb) := HS8.out.down (Joins.below_alloc1 v8 _)
    have HNB9 : Hid (NBlk w (v8.alloc (.cells #[.string (bs x.name), .slice x.ra x.rn x.rc, .int .i64 x.at'] 57)) x) := HNB.out.down (Joins.below_alloc1 v8 _)
    clear HK3 HS8 HNB
    generalize v8.alloc (.cells #[.string (bs x.name), .slice x.ra x.rn x.rc, .int .i64 x.at'] 57) = v9 at *
    obtain ⟨v', v10, hAPP, ho, hg, _⟩ := append_recs (E := BlkE) 38 57 38 Try.underlying38 info_blk rfl (by decide) HS9.out.own (u := .slice (some ⟨v8.heap.size, 0, none⟩) 1 1) ⟨_, _, rfl, HX.out, fun h => by cases h⟩ (by rw [HSL.out]; show i + 1 ≤ 1000000; omega) HS9.out.below.size
    obtain ⟨la4, lc4, rfl, _⟩ := OwnRecs.of_row ho
    have hln2 : bs'.length + [x].length = (bs' ++ [x]).length := List.length_append.symm
    rw [hln2] at hAPP ho
    have HSN : Hid (BSt w wB v10 pre l (i + 1) (bs' ++ [x]) la4 lc4) := HS9.out.push hil HNB9.out HBQ.out wj.heap.size HBA.out HRA.out HWZ.out.1 ho hg
    have hl2 : (bs' ++ [x]).length = i + 1 := by rw [List.length_append, HSL.out]; rfl
    rw [hl2, HSL.out] at hAPP
    clear HX HS9 HNB9 ho hg hln2 hl2 HBQ HRA HBA
    refine seq_one ?_;refine op_append rfl rfl rfl rfl rfl hF rfl rfl rfl hAPP (fun a hF => ?_);clear hAPP;refine seq_ck [4] [] hF fun C hC => ?_;clear hF;refine za rfl rfl rfl ?_;refine hC _ (fun a hF => ?_);clear hC C;refine seq_end ?_;replace hF := hF.kp [1, 2, 3, 6, 7, 8, 9, 10, 11] rfl
    exact hKF _ _ ⟨bs' ++ [x], la4, lc4, hF, HSN⟩
  clear hF
  rintro a wC ⟨bs', lb, cb, hF, HS⟩
  have HWC : Hid (Below w.heap.size w wC) := HWB.out.trans (HS.out.below.mono HWB.out.size)
  have HLC : Hid (LevIn wC gl { l with name := pre ++ l.name, at' := at2 }) := HL7.out.down HS.out.below
  refine wp_seq_k (fun K hK => ?_);refine region_sk [0] [] hF fun C hC => ?_;clear hF;refine za rfl rfl rfl ?_;refine hC _ (fun a hF => ?_);clear hC C;refine seq_end ?_;replace hF := hF.kp [1, 2, 3, 6, 7, 8, 9, 10, 16] rfl;refine hK _ _ ?_;clear hK;(try clear K)
  -- the areas
  refine seq_cut (fun a' w' => ∃ (la : Option Addr) (ca : Nat), FrF 122 [] [(1, .string (bs pre)), (2, .int .i64 y), (3, .pointer (some ⟨gh, 0, none⟩)), (6, .pointer (some ⟨gp, 0, none⟩)), (7, .pointer (some ⟨go, 0, none⟩)), (8, .int .i64 n), (9, .pointer (some ⟨gl, 0, none⟩)), (10, .slice lb l.bn cb), (16, .slice la l.an ca)] a' ∧ Hid (Below wC.heap.size wC w' ∧ w'.ownsRow wC.heap.size 48 7 (.slice la l.an ca) l.an (flat AreaE ((l.areas.take l.an).map (nmA pre))))) (fun KG hKG => ?_) ?_
  · have HR0 : Hid (Below wC.heap.size wC wC ∧ wC.ownsRow wC.heap.size 48 7 (.slice none 0 0) 0 (flat AreaE ((l.areas.take 0).map (nmA pre)))) := ⟨Below.refl _ _, nil_row⟩
    refine wp_seq_k (fun K hK => ?_);refine region_sk [0] [] hF fun C hC => ?_;clear hF;refine za rfl rfl rfl ?_;refine hC _ (fun a hF => ?_);clear hC C;refine seq_end ?_;replace hF := hF.kp [1, 2, 3, 6, 7, 8, 9, 10, 16, 17] rfl;refine hK _ _ ?_;clear hK;(try clear K)
    refine wp_block ?_
    refine loop_fr (fun q a' w' => ∃ (k : Nat) (la : Option Addr) (ca : Nat), k + q = l.an ∧ FrF 122 [] [(1, .string (bs pre)), (2, .int .i64 y), (3, .pointer (some ⟨gh, 0, none⟩)), (6, .pointer (some ⟨gp, 0, none⟩)), (7, .pointer (some ⟨go, 0, none⟩)), (8, .int .i64 n), (9, .pointer (some ⟨gl, 0, none⟩)), (10, .slice lb l.bn cb), (16, .slice la k ca), (17, .int .i64 k)] a' ∧ Hid (Below wC.heap.size wC w' ∧ w'.ownsRow wC.heap.size 48 7 (.slice la k ca) k (flat AreaE ((l.areas.take k).map (nmA pre))))) l.an ⟨0, none, 0, by omega, hF, HR0⟩ ?_
    clear hF HR0
    rintro rh a wk ⟨k, la, ca, hkk, hF, HR⟩ KH hKH
    refine wp_seq_k (fun K hK => ?_);refine wp_seq_k (fun K hK => ?_)
    obtain ⟨_, _, _, q3, _, _, _, _⟩ := (HLC.out.down HR.out.1).cells
    have l3 : wk.cell? ⟨gl, 3, none⟩ = some (.slice l.aa l.an l.ac) := q3
    clear q3
    by_cases hlk : k < l.an
    rotate_left
    · have hlki : ¬ (k : Int) < (l.an : Nat) := by omega
      refine region_sk [0, 1, 2, 3, 4] [] hF fun C hC => ?_;clear hF;refine zm rfl rfl rfl ?_;refine zs1 9 rfl rfl ?_;refine zs1 91 rfl rfl ?_;refine zs1 92 rfl rfl ?_;refine zs2 90 93 rfl rfl rfl ?_;refine hC _ (fun a hF => ?_);clear hC C;refine seq_end ?_;replace hF := hF.kp [1, 2, 3, 6, 7, 8, 9, 10, 16, 17, 94] rfl
      clear l3
      refine hK _ _ ?_;clear hK;(try clear K)
      refine cond_no hF rfl ?_
      refine wp_exit ?_
      have hie : k = l.an := by omega
      rw [hie] at hF HR
      exact hKG _ _ ⟨la, ca, hF.sub ⟨rfl, rfl, rfl, rfl, rfl, rfl, rfl, rfl, rfl, trivial⟩, HR⟩
    have hlki : (k : Int) < (l.an : Nat) := by omega
    refine region_sk [0, 1, 2, 3, 4] [] hF fun C hC => ?_;clear hF;refine zm rfl rfl rfl ?_;refine zs1 9 rfl rfl ?_;refine zs1 91 rfl rfl ?_;refine zs1 92 rfl rfl ?_;refine zs2 90 93 rfl rfl rfl ?_;refine hC _ (fun a hF => ?_);clear hC C;refine seq_end ?_;replace hF := hF.kp [1, 2, 3, 6, 7, 8, 9, 10, 16, 17, 94] rfl;refine hK _ _ ?_;clear hK;(try clear K)
    refine cond_yes hF rfl ?_
    refine wp_skip ?_
    refine hK _ _ ?_;clear hK;(try clear K);replace hF := hF.kp [1, 2, 3, 6, 7, 8, 9, 10, 16, 17] rfl
    clear hKG
    have hkl : k < l.areas.length := by rw [HAL.out]; exact hlk
    have HTK := Lib.hid (take_map_next (nmA pre) hkl)
    refine seq_cut (fun a' w' => ∃ (la : Option Addr) (ca : Nat), FrF 122 [] [(1, .string (bs pre)), (2, .int .i64 y), (3, .pointer (some ⟨gh, 0, none⟩)), (6, .pointer (some ⟨gp, 0, none⟩)), (7, .pointer (some ⟨go, 0, none⟩)), (8, .int .i64 n), (9, .pointer (some ⟨gl, 0, none⟩)), (10, .slice lb l.bn cb), (16, .slice la (k + 1) ca), (17, .int .i64 k)] a' ∧ Hid (Below wC.heap.size wC w' ∧ w'.ownsRow wC.heap.size 48 7 (.slice la (k + 1) ca) (k + 1) (flat AreaE ((l.areas.take (k + 1)).map (nmA pre))))) (fun KI hKI => ?_) ?_
    rotate_left
    · clear hF HR l3
      rintro a w' ⟨la, ca, hF, HR⟩
      have hws : IntKind.i64.wrap ((k : Int) + 1) = ((k + 1 : Nat) : Int) := wrap_succ (by omega)
      refine region_sk [0, 1, 2] [] hF fun C hC => ?_;clear hF;refine zm rfl rfl rfl ?_;refine zs1 95 rfl rfl ?_;refine za rfl rfl rfl ?_;refine hC _ (fun a hF => ?_);clear hC C;refine seq_end ?_;replace hF := hF.kp [1, 2, 3, 6, 7, 8, 9, 10, 16, 17] rfl
      exact hKH (l.an - (k + 1)) _ _ (by omega) ⟨k + 1, la, ca, by omega, hF, HR⟩
    clear hKH hkk
    obtain ⟨bR, oR, hrr, r0, r1, r2, r3, r4, r5, r6⟩ := area_at (HLI.out.below (HWC.out.trans (HR.out.1.mono HWC.out.size))).areas k hlk hkl
    have HRM : Hid (l.areas[k].name.length ≤ NB) := HLM.out.2.2 _ (List.getElem_mem hkl)
    rw [hrr] at l3
    generalize l.areas[k] = r at *
    clear hrr
    refine wp_block ?_
    refine wp_seq_k (fun K hK => ?_);refine region_sk [0, 1, 2, 3, 4] [5, 6] hF fun C hC => ?_;clear hF;refine zs1 9 rfl rfl ?_;refine zs1 97 rfl rfl ?_;refine zm rfl rfl rfl ?_;refine zs2 98 99 rfl rfl rfl ?_;refine zs1 100 rfl rfl ?_;refine hC _ (fun a hF => ?_);clear hC C;refine seq_one ?_;refine ze0 rfl rfl rfl hF rfl ?_;clear hF;refine fun a hF => ?_
    have hs0 : (wk.alloc (.cells #[.string ⟨#[]⟩, .int .i64 0, .int .i64 0, .int .i64 0, .int .i64 0, .int .i64 0, .int .i64 0] 48)).heap[wk.heap.size]? = some (.cells #[.string ⟨#[]⟩, .int .i64 0, .int .i64 0, .int .i64 0, .int .i64 0, .int .i64 0, .int .i64 0] 48 (0, 0)) := World.alloc_heap_new _ _
    have hb1 := Joins.below_alloc1 wk (.cells #[.string ⟨#[]⟩, .int .i64 0, .int .i64 0, .int .i64 0, .int .i64 0, .int .i64 0, .int .i64 0] 48)
    generalize wk.alloc (.cells #[.string ⟨#[]⟩, .int .i64 0, .int .i64 0, .int .i64 0, .int .i64 0, .int .i64 0, .int .i64 0] 48) = wa at *
    obtain ⟨gr, hgv⟩ : ∃ g, g = wk.heap.size := ⟨_, rfl⟩
    have hgw : wk.heap.size ≤ gr := Nat.le_of_eq hgv.symm
    rw [← hgv] at hF hs0
    clear hgv
    have hSV := run_storeVar_row (P := Try.prog) wa gr 48 48 #[.string ⟨#[]⟩, .int .i64 0, .int .i64 0, .int .i64 0, .int .i64 0, .int .i64 0, .int .i64 0] #[.string (bs r.name), .int .i64 r.box.x, .int .i64 r.box.y, .int .i64 r.box.x2, .int .i64 r.box.y2, .int .i64 r.holds, .int .i64 r.at'] hs0 (by kernel_rfl) rfl (by simp [Value.oneCell'])
    have hs2 := setRow_heap wa gr #[.string ⟨#[]⟩, .int .i64 0, .int .i64 0, .int .i64 0, .int .i64 0, .int .i64 0, .int .i64 0] #[.string (bs r.name), .int .i64 r.box.x, .int .i64 r.box.y, .int .i64 r.box.x2, .int .i64 r.box.y2, .int .i64 r.holds, .int .i64 r.at'] 48 (0, 0) hs0
    have hb2 : Below wk.heap.size wk (wa.setRow gr #[.string (bs r.name), .int .i64 r.box.x, .int .i64 r.box.y, .int .i64 r.box.x2, .int .i64 r.box.y2, .int .i64 r.holds, .int .i64 r.at']) := below_setRow hb1 hgw #[.string (bs r.name), .int .i64 r.box.x, .int .i64 r.box.y, .int .i64 r.box.x2, .int .i64 r.box.y2, .int .i64 r.holds, .int .i64 r.at']
    have HTW := Lib.hid (And.intro hb2 (And.intro hs2 hgw))
    clear hs0 hb1 hs2 hb2 hgw
    refine seq_one ?_;refine op_storev rfl rfl hF rfl rfl rfl rfl hSV ?_;clear hF;refine fun a hF => ?_
    clear hSV
    refine hK _ _ ?_;clear hK;(try clear K)
    generalize wa.setRow gr #[.string (bs r.name), .int .i64 r.box.x, .int .i64 r.box.y, .int .i64 r.box.x2, .int .i64 r.box.y2, .int .i64 r.holds, .int .i64 r.at'] = v3 at *
    clear l3 r0 r1 r2 r3 r4 r5 r6
    have HR1 : Hid (AreaIn v3 gr r) := HTW.out.2.1
    have HO1 : Hid (v3.ownsRow wC.heap.size 48 7 (.slice la k ca) k (flat AreaE ((l.areas.take k).map (nmA pre)))) := own_keep HR.out.2 fun g A x e => below_keep HTW.out.1 g A _ x e
    have HD1 : Hid (Below wC.heap.size wC v3) := HR.out.1.trans (HTW.out.1.mono HR.out.1.size)
    have HGr : Hid (wC.heap.size ≤ gr) := Nat.le_trans HR.out.1.size HTW.out.2.2
    have HNE : Hid (∀ g, (Value.slice la k ca).ownBlock = some g → g ≠ gr) := fun g hg => by
      have h1 := (HR.out.2.lt g hg).2
      have h2 := HTW.out.2.2
      omega
    clear HTW HR
    obtain ⟨r0, _, _, _, _, _, _⟩ := HR1.out.cells
    have f0 := free_var (o := 0) HR1.out
    have hba : bs pre ++ bs r.name = bs (pre ++ r.name) := bs_append _ _
    have hcat : ¬ 9223372036854775807 < (bs pre).size + (bs r.name).size := by
      have h1 : r.name.length ≤ 140737488351232 := HRM.out
      have h2 : pre.length ≤ 140737488351232 := HPR.out
      rw [bs_size, bs_size]
      omega
    have HR2 : Hid (AreaIn (v3.setCell ⟨gr, 0, none⟩ (.string (bs (pre ++ r.name)))) gr (nmA pre r)) := HR1.out.setName _
    have HO2 : Hid ((v3.setCell ⟨gr, 0, none⟩ (.string (bs (pre ++ r.name)))).ownsRow wC.heap.size 48 7 (.slice la k ca) k (flat AreaE ((l.areas.take k).map (nmA pre)))) := row_of_heap HO1.out fun g hg => set_other (HNE.out g hg)
    have HD2 : Hid (Below wC.heap.size wC (v3.setCell ⟨gr, 0, none⟩ (.string (bs (pre ++ r.name))))) := HD1.out.trans (below_set HGr.out)
    refine wp_seq_k (fun K hK => ?_);refine region_sk [0, 1, 2, 3, 4] [5] hF fun C hC => ?_;clear hF;refine zm rfl rfl rfl ?_;refine zs1 18 rfl rfl ?_;refine zs1 103 rfl rfl ?_;refine zs2 102 104 rfl rfl rfl ?_;refine zs1 18 rfl rfl ?_;refine hC _ (fun a hF => ?_);clear hC C;refine seq_one ?_;refine zu2 105 106 rfl rfl hF rfl rfl rfl ?_;clear hF;refine fun a hF => ?_;refine seq_end ?_;replace hF := hF.kp [1, 2, 3, 6, 7, 8, 9, 10, 16, 17, 18] rfl
    clear r0 f0 hcat hba HR1 HO1 HD1 HNE HGr
    refine hK _ _ ?_;clear hK;(try clear K)
    generalize v3.setCell ⟨gr, 0, none⟩ (.string (bs (pre ++ r.name))) = v5 at *
    generalize nmA pre r = x at *
    obtain ⟨x0, x1, x2, x3, x4, x5, x6⟩ := HR2.out.cells
    refine region_sk [0, 1] [2, 3, 4] hF fun C hC => ?_;clear hF;refine zm rfl rfl rfl ?_;refine zs1 18 rfl rfl ?_;refine hC _ (fun a hF => ?_);clear hC C;refine seq_one ?_;refine ze1 108 rfl rfl rfl hF rfl rfl ?_;clear hF;refine fun a hF => ?_
    clear x0 x1 x2 x3 x4 x5 x6
    have HX := Lib.hid (recs_alloc AreaE v5 48 [x] #[.string (bs x.name), .int .i64 x.box.x, .int .i64 x.box.y, .int .i64 x.box.x2, .int .i64 x.box.y2, .int .i64 x.holds, .int .i64 x.at'] rfl)
    have HO4 : Hid ((v5.alloc (.cells #[.string (bs x.name), .int .i64 x.box.x, .int .i64 x.box.y, .int .i64 x.box.x2, .int .i64 x.box.y2, .int .i64 x.holds, .int .i64 x.at'] 48)).ownsRow wC.heap.size 48 7 (.slice la k ca) k (flat AreaE ((l.areas.take k).map (nmA pre)))) := own_keep HO2.out fun g A z e => below_keep (Joins.below_alloc1 v5 _) g A _ z e
    have HD4 : Hid (Below wC.heap.size wC (v5.alloc (.cells #[.string (bs x.name), .int .i64 x.box.x, .int .i64 x.box.y, .int .i64 x.box.x2, .int .i64 x.box.y2, .int .i64 x.holds, .int .i64 x.at'] 48))) := HD2.out.trans ((Joins.below_alloc1 v5 _).mono HD2.out.size)
    clear HR2 HO2 HD2
    generalize v5.alloc (.cells #[.string (bs x.name), .int .i64 x.box.x, .int .i64 x.box.y, .int .i64 x.box.x2, .int .i64 x.box.y2, .int .i64 x.holds, .int .i64 x.at'] 48) = v6 at *
    obtain ⟨v', v7, hAPP, ho, hg, _⟩ := append_recs (E := AreaE) 39 48 39 Try.underlying39 info_area rfl (by decide) HO4.out (u := .slice (some ⟨v5.heap.size, 0, none⟩) 1 1) ⟨_, _, rfl, HX.out, fun h => by cases h⟩ (by simp; omega) HD4.out.size
    obtain ⟨la4, lc4, rfl, _⟩ := OwnRecs.of_row ho
    have HD7 : Hid (Below wC.heap.size wC v7) := HD4.out.grown hg HD4.out.size (fun g hg => (HO4.out.lt g hg).1)
    have HO7 : Hid (v7.ownsRow wC.heap.size 48 7 (.slice la4 (k + 1) lc4) (k + 1) (flat AreaE ((l.areas.take (k + 1)).map (nmA pre)))) := by
      rw [HTK.out]
      exact ho
    have hk1 : k + [x].length = k + 1 := rfl
    rw [hk1] at hAPP
    clear HX HO4 HD4 ho hg hk1
    refine seq_one ?_;refine op_append rfl rfl rfl rfl rfl hF rfl rfl rfl hAPP (fun a hF => ?_);clear hAPP;refine seq_ck [4] [] hF fun C hC => ?_;clear hF;refine za rfl rfl rfl ?_;refine hC _ (fun a hF => ?_);clear hC C;refine seq_end ?_;replace hF := hF.kp [1, 2, 3, 6, 7, 8, 9, 10, 16, 17] rfl
    exact hKI _ _ ⟨la4, lc4, hF, And.intro HD7.out HO7.out⟩
  clear hF
  rintro a wD ⟨la, ca, hF, HR⟩
  have hta : l.areas.take l.an = l.areas := by rw [← HAL.out, List.take_length]
  rw [hta] at HR
  clear hta
  have HLD : Hid (LevIn wD gl { l with name := pre ++ l.name, at' := at2 }) := HLC.out.down HR.out.1
  obtain ⟨_, _, q2, _, _, _, _, _⟩ := HLD.out.cells
  have f2 := free_var (o := 2) HLD.out
  have HL1 : Hid (LevIn (wD.setCell ⟨gl, 2, none⟩ (.slice lb l.bn cb)) gl { l with name := pre ++ l.name, at' := at2, ba := lb, bn := l.bn, bc := cb, blocks := bs' }) := HLD.out.setBlocks _ _ _ _
  have HWD : Hid (Below wi.heap.size wi wD) := (HB7.out.trans (HS.out.below.mono HB7.out.size)).trans (HR.out.1.mono (Nat.le_trans HB7.out.size HS.out.below.size))
  have HW1 : Hid (Below wi.heap.size wi (wD.setCell ⟨gl, 2, none⟩ (.slice lb l.bn cb))) := HWD.out.trans (below_set HGL.out)
  have HK1 : Hid (∀ (g : Nat) (A : Array Value) (T : TypeId) (z : Nat × Nat), T ≠ 43 → wC.heap[g]? = some (.cells A T z) → (wD.setCell ⟨gl, 2, none⟩ (.slice lb l.bn cb)).heap[g]? = wC.heap[g]?) := fun g A T z hT e => by
    have h1 := below_keep HR.out.1 g A T z e
    exact (set_other (type_ne (h1.trans e) HLD.out hT)).trans h1
  have HA1 : Hid ((wD.setCell ⟨gl, 2, none⟩ (.slice lb l.bn cb)).ownsRow wC.heap.size 48 7 (.slice la l.an ca) l.an (flat AreaE (l.areas.map (nmA pre)))) := own_keep HR.out.2 fun g A z e => set_other (type_ne e HLD.out (by decide))
  refine wp_seq_k (fun K hK => ?_);refine region_sk [0, 1] [2] hF fun C hC => ?_;clear hF;refine zm rfl rfl rfl ?_;refine zs1 9 rfl rfl ?_;refine hC _ (fun a hF => ?_);clear hC C;refine seq_one ?_;refine zu2 111 112 rfl rfl hF rfl rfl rfl ?_;clear hF;refine fun a hF => ?_;refine seq_end ?_;replace hF := hF.kp [1, 2, 3, 6, 7, 8, 9, 16] rfl
  clear q2 f2 HLD HWD HR
  refine hK _ _ ?_;clear hK;(try clear K)
  generalize wD.setCell ⟨gl, 2, none⟩ (.slice lb l.bn cb) = u1 at *
  obtain ⟨_, _, _, q3, _, _, _, _⟩ := HL1.out.cells
  have f3 := free_var (o := 3) HL1.out
  have HL2 : Hid (LevIn (u1.setCell ⟨gl, 3, none⟩ (.slice la l.an ca)) gl { l with name := pre ++ l.name, at' := at2, ba := lb, bn := l.bn, bc := cb, blocks := bs', aa := la, an := l.an, ac := ca, areas := l.areas.map (nmA pre) }) := HL1.out.setAreas _ _ _ _
  have HW2 : Hid (Below wi.heap.size wi (u1.setCell ⟨gl, 3, none⟩ (.slice la l.an ca))) := HW1.out.trans (below_set HGL.out)
  have HK2 : Hid (∀ (g : Nat) (A : Array Value) (T : TypeId) (z : Nat × Nat), T ≠ 43 → wC.heap[g]? = some (.cells A T z) → (u1.setCell ⟨gl, 3, none⟩ (.slice la l.an ca)).heap[g]? = wC.heap[g]?) := fun g A T z hT e => by
    have h1 := HK1.out g A T z hT e
    exact (set_other (type_ne (h1.trans e) HL1.out hT)).trans h1
  have HA2 : Hid ((u1.setCell ⟨gl, 3, none⟩ (.slice la l.an ca)).ownsRow wC.heap.size 48 7 (.slice la l.an ca) l.an (flat AreaE (l.areas.map (nmA pre)))) := own_keep HA1.out fun g A z e => set_other (type_ne e HL1.out (by decide))
  refine wp_seq_k (fun K hK => ?_);refine region_sk [0, 1] [2] hF fun C hC => ?_;clear hF;refine zm rfl rfl rfl ?_;refine zs1 9 rfl rfl ?_;refine hC _ (fun a hF => ?_);clear hC C;refine seq_one ?_;refine zu2 113 114 rfl rfl hF rfl rfl rfl ?_;clear hF;refine fun a hF => ?_;refine seq_end ?_;replace hF := hF.kp [1, 2, 3, 6, 7, 8, 9] rfl
  clear q3 f3 HL1 HW1 HK1 HA1
  refine hK _ _ ?_;clear hK;(try clear K)
  generalize u1.setCell ⟨gl, 3, none⟩ (.slice la l.an ca) = u2 at *
  have HN2 := Lib.hid (HN.out.down HW2.out)
  have HSL : Hid (bs'.length = l.bn) := HS.out.len (by rw [HBL.out]; exact Nat.le_refl _)
  have HNL : Hid (NLev w u2 { l with name := pre ++ l.name, at' := at2, ba := lb, bn := l.bn, bc := cb, blocks := bs', aa := la, an := l.an, ac := ca, areas := l.areas.map (nmA pre) }) := by
    refine ⟨?_, fun b hb => (HS.out.bk b hb).keep fun g A z e => HK2.out g A _ z (by decide) e, own_mono HA2.out HWC.out.size, ⟨hbn, HLS.out.rest⟩, HLI.out.aisles, HLI.out.pillars, HLI.out.doors, HLI.out.sa0, HLI.out.pa0, HLI.out.da0⟩
    have h1 := HS.out.own
    rw [HSL.out] at h1
    exact own_mono (own_keep h1 fun g A z e => HK2.out g A _ z (by decide) e) HWB.out.size
  have HLQ : Hid (mL [] { l with name := pre ++ l.name, at' := at2, ba := lb, bn := l.bn, bc := cb, blocks := bs', aa := la, an := l.an, ac := ca, areas := l.areas.map (nmA pre) } = mL pre h.levels[n]) := by
    show _ = _
    have h1 := HS.out.eq
    rw [← HBL.out, List.take_length] at h1
    rw [← HLE.out]
    unfold mL
    dsimp only
    rw [h1, List.map_map]
    rfl
  have HT2 : Hid (∀ b ∈ bs', ∀ g, rowsAt b = some g → wi.heap.size ≤ g) := fun b hb g hg => Nat.le_trans HB7.out.size (HS.out.lo b hb g hg)
  have HAP : Hid (Apt ({ l with name := pre ++ l.name, at' := at2, ba := lb, bn := l.bn, bc := cb, blocks := bs', aa := la, an := l.an, ac := ca, areas := l.areas.map (nmA pre) } : LevR).blocks ∧ ∀ b ∈ ({ l with name := pre ++ l.name, at' := at2, ba := lb, bn := l.bn, bc := cb, blocks := bs', aa := la, an := l.an, ac := ca, areas := l.areas.map (nmA pre) } : LevR).blocks, ∀ g, rowsAt b = some g → wi.heap.size ≤ g) := ⟨HS.out.apt, HT2.out⟩
  have HLS2 : Hid (ls.length = n) := HN.out.len (Nat.le_of_lt hnl)
  clear HT2 HSL HK2 HA2 HS HWC HLC HWB HL7 HB7 HN HGB HLE HLI HLM HLS HRN HMN HBL HAL HW2
  generalize ({ l with name := pre ++ l.name, at' := at2, ba := lb, bn := l.bn, bc := cb, blocks := bs', aa := la, an := l.an, ac := ca, areas := l.areas.map (nmA pre) } : LevR) = x at *
  obtain ⟨x0, x1, x2, x3, x4, x5, x6, x7⟩ := HL2.out.cells
  obtain ⟨_, _, _, q3⟩ := HN2.out.ho.cells
  have o3 : u2.cell? ⟨go, 3, none⟩ = some (.slice lo ls.length co) := q3
  clear q3
  refine region_sk [0, 1, 2] [3, 4, 5, 6] hF fun C hC => ?_;clear hF;refine zs1 7 rfl rfl ?_;refine zs1 115 rfl rfl ?_;refine zs1 9 rfl rfl ?_;refine hC _ (fun a hF => ?_);clear hC C;refine seq_one ?_;refine ze1 117 rfl rfl rfl hF rfl rfl ?_;clear hF;refine fun a hF => ?_
  clear x0 x1 x2 x3 x4 x5 x6 x7 o3
  have HX := Lib.hid (recs_alloc LevE u2 43 [x] #[.string (bs x.name), .int .i64 x.height, .slice x.ba x.bn x.bc, .slice x.aa x.an x.ac, .slice x.sa x.sn x.sc, .slice x.pa x.pn x.pc, .slice x.da x.dn x.dc, .int .i64 x.at'] rfl)
  have HN3 : Hid (NSt w (u2.alloc (.cells #[.string (bs x.name), .int .i64 x.height, .slice x.ba x.bn x.bc, .slice x.aa x.an x.ac, .slice x.sa x.sn x.sc, .slice x.pa x.pn x.pc, .slice x.da x.dn x.dc, .int .i64 x.at'] 43)) h gh gp go pre n ls lo co) := HN2.out.down (Joins.below_alloc1 u2 _)
  have HNL3 : Hid (NLev w (u2.alloc (.cells #[.string (bs x.name), .int .i64 x.height, .slice x.ba x.bn x.bc, .slice x.aa x.an x.ac, .slice x.sa x.sn x.sc, .slice x.pa x.pn x.pc, .slice x.da x.dn x.dc, .int .i64 x.at'] 43)) x) := HNL.out.down (Joins.below_alloc1 u2 _)
  clear HL2 HN2 HNL
  generalize u2.alloc (.cells #[.string (bs x.name), .int .i64 x.height, .slice x.ba x.bn x.bc, .slice x.aa x.an x.ac, .slice x.sa x.sn x.sc, .slice x.pa x.pn x.pc, .slice x.da x.dn x.dc, .int .i64 x.at'] 43) = u3 at *
  obtain ⟨v', u4, hAPP, ho, hg, _⟩ := append_recs (E := LevE) 24 43 24 Try.underlying24 info_lev rfl (by decide) HN3.out.lv (u := .slice (some ⟨u2.heap.size, 0, none⟩) 1 1) ⟨_, _, rfl, HX.out, fun h => by cases h⟩ (by rw [HLS2.out]; show n + 1 ≤ 1000000; omega) HN3.out.below.size
  obtain ⟨la4, lc4, rfl, _⟩ := OwnRecs.of_row ho
  have hln2 : ls.length + [x].length = (ls ++ [x]).length := List.length_append.symm
  rw [hln2] at hAPP ho
  have HGO4 : Hid (HallIn u4 go ⟨[], h.stage, lo, ls.length, co, []⟩) := (hg.block go (lt_of_block HN3.out.ho) fun e2 => by
    obtain ⟨cur, hh⟩ := own_type HN3.out.lv e2.symm
    exact type_ne HN3.out.ho hh (by decide) rfl).trans HN3.out.ho
  have HNN := Lib.hid (HN3.out.push hnl HNL3.out HLQ.out wi.heap.size HAT.out HAP.out.2 HAP.out.1 ho hg)
  clear HX HN3 HNL3 HLQ HAP HAT ho hg hln2
  generalize (ls ++ [x]).length = lsn at *
  refine seq_one ?_;refine op_append rfl rfl rfl rfl rfl hF rfl rfl rfl hAPP (fun a hF => ?_);clear hAPP
  obtain ⟨_, _, _, q3⟩ := HGO4.out.cells
  have f3 := free_var (o := 3) HGO4.out
  refine seq_ck [5] [6] hF fun C hC => ?_;clear hF;refine zs1 7 rfl rfl ?_;refine hC _ (fun a hF => ?_);clear hC C;refine seq_one ?_;refine zu2 119 120 rfl rfl hF rfl rfl rfl ?_;clear hF;refine fun a hF => ?_;refine seq_end ?_;replace hF := hF.kp [1, 2, 3, 6, 7, 8] rfl
  clear q3 f3
  exact hKC _ _ ⟨ls ++ [x], la4, lc4, hF, HNN⟩
end Go.Proofs.Ytmcdhggnpfhlmaa
