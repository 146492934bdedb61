/- hall: foyerlaw10.example: the walk; hall: equality of faults and places (printed by heqgen.py); hall: foyerref10.Same, SameFaults (printed by hsagen.py). -/
import Derived.Test.YtmcdhggnpfhlmaaGreatQHMR05
import Derived.Test.YtmcdhggnpfhlmaaGreatQHMR11
import Derived.Test.YtmcdhggnpfhlmaaGreatQHMR23
import Derived.Shelf.SlicesE.Kit

set_option linter.unusedVariables false
set_option linter.unusedSimpArgs false
namespace Go.Proofs.YtmcdhggnpfhlmaaGreat
open Go.RowKit Go.IntWalk
set_option linter.unusedSimpArgs false
set_option linter.unusedVariables false

/-- A block of its own is a row of one. -/
theorem own_fresh {α : Type} {k : Nat} {E : Enc α k} {w : World} {B g : Nat} {T : TypeId} {x : α} {arr : Array Value} (h : w.heap[g]? = some (.cells arr T (0, 0))) (ha : arr = (E.cells x).toArray) (hB : B ≤ g) : w.ownsRow B T k (.slice (some ⟨g, 0, none⟩) 1 1) 1 (flat E [x]) := by
 subst ha
 refine ⟨by rw [flat_len]; simp, .inr ⟨g, 1, _, rfl, hB, h, Nat.le_refl _, by unfold maxLen; omega, by simp [E.len], ?_⟩⟩
 rw [flat_single, List.take_of_length_le (by simp [E.len])]
theorem recs_one {α : Type} {k : Nat} {E : Enc α k} {w : World} {g : Nat} {T : TypeId} {x : α} {arr : Array Value} (h : w.heap[g]? = some (.cells arr T (0, 0))) (ha : arr = (E.cells x).toArray) : Recs E w (some ⟨g, 0, none⟩) 1 [x] := by
 obtain ⟨la, c, e, hr, _⟩ := Rcs.of_own (own_fresh (B := 0) h ha (Nat.zero_le _))
 simp only [Value.slice.injEq] at e
 obtain ⟨rfl, _, _⟩ := e
 exact hr

theorem exLev_Sm {rows : List RowR} {la : Option Addr} {lc g2 g3 g5 dn dc : Nat} {da : Option Addr} {doors : List PntR} (hr : rows.length ≤ 2) (hd : dn ≤ 1) (hm : ∀ r ∈ rows, r.mn ≤ 1000) : (exHall (exLev rows la rows.length lc g2 g3 da dn dc doors) g5).Sm := by
 have key : ∀ l ∈ (exHall (exLev rows la rows.length lc g2 g3 da dn dc doors) g5).levels, l = exLev rows la rows.length lc g2 g3 da dn dc doors := fun l hl => by simpa [exHall] using hl
 have keyb : ∀ b ∈ (exLev rows la rows.length lc g2 g3 da dn dc doors).blocks, b = ⟨[98], la, rows.length, lc, rows, 0⟩ := fun b hb => by simpa [exLev] using hb
 refine ⟨show (1 : Nat) ≤ 12 by omega, fun l hl => ?_, fun l hl b hb => ?_, fun l hl b hb r hr2 => ?_⟩
 ·
  rw [key l hl]
  exact ⟨show (1 : Nat) ≤ 6 by omega, show 1 + 0 + dn + 0 ≤ 60 by omega⟩
 ·
  rw [key l hl] at hb
  rw [keyb b hb]
  show rows.length ≤ 8
  omega
 ·
  rw [key l hl] at hb
  rw [keyb b hb] at hr2
  exact hm r hr2
theorem exLev_ac {rows : List RowR} {la : Option Addr} {lc g2 g3 g5 dn dc : Nat} {da : Option Addr} {doors : List PntR} : ∀ l ∈ (exHall (exLev rows la rows.length lc g2 g3 da dn dc doors) g5).levels, l.an ≤ l.ac := fun l hl => by
 have : l = exLev rows la rows.length lc g2 g3 da dn dc doors := by simpa [exHall] using hl
 rw [this]
 show (0 : Nat) ≤ 0
 omega

/-- What example returns. -/
structure ExAt (w0 : World) (w' : World) (rows : List RowR) (la : Option Addr) (lc g2 g3 g4 g5 : Nat) : Prop where
 below : Below w0.heap.size w0 w'
 fresh : w0.heap.size ≤ g5
 hall : (exHall (exLev rows la rows.length lc g2 g3 (some ⟨g4, 0, none⟩) 1 1 [⟨0, 0⟩]) g5).In w'
 own : w'.ownsRow w0.heap.size 49 8 (.slice la rows.length lc) rows.length (flat RowE rows)
 blk : w'.heap[g2]? = some (.cells #[.string ⟨#[98]⟩, .slice la rows.length lc, .int .i64 0] 57 (0, 0))
 box : w'.heap[g3]? = some (.cells #[.int .i64 0, .int .i64 0, .int .i64 1, .int .i64 9] 59 (0, 0))
 lev : w'.heap[g5]? = some (.cells #[.string ⟨#[108]⟩, .int .i64 0, .slice (some ⟨g2, 0, none⟩) 1 1, .slice none 0 0, .slice (some ⟨g3, 0, none⟩) 1 1, .slice none 0 0, .slice (some ⟨g4, 0, none⟩) 1 1, .int .i64 0] 32 (0, 0))

theorem ex_in {w : World} {rows : List RowR} {la : Option Addr} {lc g2 g3 g5 dn dc : Nat} {da : Option Addr} {doors : List PntR} (h2 : w.heap[g2]? = some (.cells #[.string ⟨#[98]⟩, .slice la rows.length lc, .int .i64 0] 57 (0, 0))) (h3 : w.heap[g3]? = some (.cells #[.int .i64 0, .int .i64 0, .int .i64 1, .int .i64 9] 59 (0, 0)))
  (hd : Recs PntE w da dn doors) (hdn : dn ≤ 100) (hd0 : da = none → dc = 0) (h5 : w.heap[g5]? = some (.cells #[.string ⟨#[108]⟩, .int .i64 0, .slice (some ⟨g2, 0, none⟩) 1 1, .slice none 0 0, .slice (some ⟨g3, 0, none⟩) 1 1, .slice none 0 0, .slice da dn dc, .int .i64 0] 32 (0, 0)))
  (hr : Recs RowE w la rows.length rows) (hrl : rows.length ≤ 100) (hri : ∀ r ∈ rows, r.In w) : (exHall (exLev rows la rows.length lc g2 g3 da dn dc doors) g5).In w := by
 refine ⟨recs_one h5 rfl, show (1 : Nat) ≤ 9223372036854775807 by omega, fun l hl => ?_⟩
 obtain rfl : l = exLev rows la rows.length lc g2 g3 da dn dc doors := by simpa [exHall] using hl
 refine ⟨recs_one h2 rfl, show (1 : Nat) ≤ 9223372036854775807 by omega, fun b hb => ?_, ⟨rfl, fun i hi => absurd hi (Nat.not_lt_zero _)⟩, show (0 : Nat) ≤ 9223372036854775807 by omega, recs_one h3 rfl, show (1 : Nat) ≤ 9223372036854775807 by omega, ⟨rfl, fun i hi => absurd hi (Nat.not_lt_zero _)⟩, show (0 : Nat) ≤ 9223372036854775807 by omega, hd, show dn ≤ 9223372036854775807 by omega, (fun e => by cases e), fun _ => rfl, hd0⟩
 obtain rfl : b = ⟨[98], la, rows.length, lc, rows, 0⟩ := by simpa [exLev] using hb
 exact ⟨hr, show rows.length ≤ 9223372036854775807 by omega, hri⟩

set_option maxRecDepth 100000 in
set_option maxHeartbeats 16000000 in
theorem example_any (w : World) (ma : Option Addr) (mn mc : Nat) (ms : List MarkR) (hm : Recs MarkE w ma mn ms) (hmn : mn ≤ 100) (hm0 : ma = none → mc = 0) (hmk : ∀ m ∈ ms, (Lit.int .i64 m.seat).wf = true ∧ (Lit.int .i64 m.wth).wf = true)
  (ra : Option Addr) (rc : Nat) (more : List RowR) (hu : Rcs RowE w (.slice ra more.length rc) more) (hml : more.length ≤ 50) (hmr : ∀ r ∈ more, r.In w) :
  Calls Tryz.prog 12 #[.slice ma mn mc, .slice ra more.length rc] w fun e w' => ∃ la lc g2 g3 g4 g5, e = .returned (.agg #[.string ⟨#[]⟩, .int .i64 0, .int .i64 0, .slice (some ⟨g5, 0, none⟩) 1 1]) ∧ ExAt w w' (exRow ma mn mc ms :: more) la lc g2 g3 g4 g5 := by
 have HM := Lib.hid hm
 have HU := Lib.hid hu
 have HMR := Lib.hid hmr
 have HRI : Hid (∀ w', Below w.heap.size w w' → (exRow ma mn mc ms).In w') := fun w' hb => ⟨hm.below hb, by show mn ≤ _; omega, hm0, by show (2 : Int) ≤ _; omega, hmk⟩
 clear hm hu hmr hm0 hmk
 refine enter_fr (N := 21) [.slice ma mn mc, .slice ra more.length rc] (Tryz.func12) rfl Tryz.ntmps12 (by rfl) (fun a hF => ?_);replace hF := hF.kp [0, 1] rfl;refine wp_seq_k (fun K hK => ?_);refine region_seq (l := [0]) (by kernel_rfl) ?_;refine seq_one ?_;revert hF;refine qe0 fun a hF => ?_;refine seq_end ?_;replace hF := hF.kp [0, 1, 4] rfl;refine hK _ _ ?_;clear hK
 have HH : Hid ((w.alloc (.cells #[.string ⟨#[]⟩, .int .i64 0, .int .i64 0, .slice none 0 0] 26)).heap[w.heap.size]? = some (.cells #[.string ⟨#[]⟩, .int .i64 0, .int .i64 0, .slice none 0 0] 26 (0, 0))) := World.alloc_heap_new w _
 have HB : Hid (Below w.heap.size w (w.alloc (.cells #[.string ⟨#[]⟩, .int .i64 0, .int .i64 0, .slice none 0 0] 26))) := Joins.below_alloc1 w _
 generalize w.alloc (.cells #[.string ⟨#[]⟩, .int .i64 0, .int .i64 0, .slice none 0 0] 26) = w1 at *
 obtain ⟨gh, hgh⟩ : ∃ g, g = w.heap.size := ⟨_, rfl⟩
 have HGH : Hid (w.heap.size ≤ gh) := Nat.le_of_eq hgh.symm
 rw [← hgh] at hF HH
 clear hgh
 refine wp_seq_k (fun K hK => ?_);revert hF;refine zrp [1, 4] [2, 3, 4, 5] fun a hF => ?_;refine seq_one ?_;revert hF;refine qe1 fun a hF => ?_
 have HR0 : Hid ((w1.alloc (.cells #[.string ⟨#[97]⟩, .int .i64 3, .int .i64 5, .int .i64 1, .int .i64 3, .int .i64 2, .slice ma mn mc, .int .i64 7] 49)).heap[w1.heap.size]? = some (.cells #[.string ⟨#[97]⟩, .int .i64 3, .int .i64 5, .int .i64 1, .int .i64 3, .int .i64 2, .slice ma mn mc, .int .i64 7] 49 (0, 0))) := World.alloc_heap_new w1 _
 have hba := Joins.below_alloc1 w1 (.cells #[.string ⟨#[97]⟩, .int .i64 3, .int .i64 5, .int .i64 1, .int .i64 3, .int .i64 2, .slice ma mn mc, .int .i64 7] 49)
 have HB2 : Hid (Below w.heap.size w (w1.alloc (.cells #[.string ⟨#[97]⟩, .int .i64 3, .int .i64 5, .int .i64 1, .int .i64 3, .int .i64 2, .slice ma mn mc, .int .i64 7] 49))) := HB.out.trans (hba.mono HB.out.size)
 have HH2 := Lib.hid ((hba.block gh (lt_of_block HH.out)).trans HH.out)
 have HZ := HB.out.size
 clear hba HB HH
 generalize w1.alloc (.cells #[.string ⟨#[97]⟩, .int .i64 3, .int .i64 5, .int .i64 1, .int .i64 3, .int .i64 2, .slice ma mn mc, .int .i64 7] 49) = w2 at *
 obtain ⟨g1, hg1⟩ : ∃ g, g = w1.heap.size := ⟨_, rfl⟩
 rw [← hg1] at hF HR0 HZ
 clear hg1
 have hown := own_fresh (E := RowE) (x := exRow ma mn mc ms) HR0.out rfl HZ
 obtain ⟨v', w3, hAPP, ho, hg, _⟩ := append_recs (E := RowE) 50 49 50 Tryz.underlying50 info_row rfl (by decide) hown (HU.out.below HB2.out) (by omega) HB2.out.size
 obtain ⟨la, lc, rfl, _⟩ := OwnRecs.of_row ho
 have HO3 := Lib.hid ho
 have HB3 : Hid (Below w.heap.size w w3) := HB2.out.grown hg HB2.out.size (fun k hk => (hown.lt k hk).1)
 have HH3 : Hid (w3.heap[gh]? = some (.cells #[.string ⟨#[]⟩, .int .i64 0, .int .i64 0, .slice none 0 0] 26 (0, 0))) := (hg.block gh (lt_of_block HH2.out) (fun e => by
  obtain ⟨cur, hh⟩ := own_type hown e.symm
  exact type_ne HH2.out hh (by decide) rfl)).trans HH2.out
 clear ho hg hown HR0 HB2 HH2 HZ
 revert hF;refine zrc 3 [1] [4, 5] fun a hF => ?_;refine seq_one ?_;refine op_append rfl rfl rfl rfl rfl hF rfl rfl rfl hAPP (fun a hF => ?_);clear hAPP;revert hF;refine zre 5 [2] [4, 5] fun a hF => ?_;refine hK _ _ ?_;clear hK
 have hrl : 1 + more.length = (exRow ma mn mc ms :: more).length := by simp; omega
 rw [hrl] at hF HO3
 clear hrl
 generalize hRS : exRow ma mn mc ms :: more = rs at *
 have HRS := Lib.hid hRS
 have HO3 : Hid (w3.ownsRow w.heap.size 49 8 (.slice la rs.length lc) rs.length (flat RowE rs)) := by
  have h := HO3.out
  rw [show [exRow ma mn mc ms] ++ more = rs from hRS] at h
  exact h
 clear hRS
 have HLN : Hid (rs.length ≤ 60) := by rw [← HRS.out]; show more.length + 1 ≤ 60; omega
 refine wp_seq_k (fun K hK => ?_);revert hF;refine zrp [1, 4] [2, 3, 4, 5, 6, 7, 8, 9, 10] fun a hF => ?_;refine seq_one ?_;revert hF;refine qe1 fun a hF => ?_
 have hn := World.alloc_heap_new w3 (.cells #[.string ⟨#[98]⟩, .slice la rs.length lc, .int .i64 0] 57)
 have hb := Joins.below_alloc1 w3 (.cells #[.string ⟨#[98]⟩, .slice la rs.length lc, .int .i64 0] 57)
 have HB4 : Hid (Below w.heap.size w (w3.alloc (.cells #[.string ⟨#[98]⟩, .slice la rs.length lc, .int .i64 0] 57))) := HB3.out.trans (hb.mono HB3.out.size)
 have HO4 := Lib.hid (row_of_heap HO3.out fun b hb2 => hb.block b (HO3.out.lt b hb2).2)
 have HH4 := Lib.hid ((hb.block _ (lt_of_block HH3.out)).trans HH3.out)
 have HZ3 := HB3.out.size
 generalize w3.alloc (.cells #[.string ⟨#[98]⟩, .slice la rs.length lc, .int .i64 0] 57) = w4 at *
 obtain ⟨g2, hgg⟩ : ∃ g, g = w3.heap.size := ⟨_, rfl⟩
 rw [← hgg] at hF hn HZ3
 have HG24 := Lib.hid hn
 clear hgg hn hb HB3 HO3 HH3
 revert hF;refine zrc 3 [3] [4, 5, 6, 7, 8, 9, 10] fun a hF => ?_;refine seq_one ?_;revert hF;refine qe1 fun a hF => ?_
 have hn := World.alloc_heap_new w4 (.cells #[.int .i64 0, .int .i64 0, .int .i64 1, .int .i64 9] 59)
 have hb := Joins.below_alloc1 w4 (.cells #[.int .i64 0, .int .i64 0, .int .i64 1, .int .i64 9] 59)
 have HB5 : Hid (Below w.heap.size w (w4.alloc (.cells #[.int .i64 0, .int .i64 0, .int .i64 1, .int .i64 9] 59))) := HB4.out.trans (hb.mono HB4.out.size)
 have HO5 := Lib.hid (row_of_heap HO4.out fun b hb2 => hb.block b (HO4.out.lt b hb2).2)
 have HH5 := Lib.hid ((hb.block _ (lt_of_block HH4.out)).trans HH4.out)
 have HG25 := Lib.hid ((hb.block _ (lt_of_block HG24.out)).trans HG24.out)
 have HZ4 := HB4.out.size
 generalize w4.alloc (.cells #[.int .i64 0, .int .i64 0, .int .i64 1, .int .i64 9] 59) = w5 at *
 obtain ⟨g3, hgg⟩ : ∃ g, g = w4.heap.size := ⟨_, rfl⟩
 rw [← hgg] at hF hn HZ4
 have HG35 := Lib.hid hn
 clear hgg hn hb HB4 HO4 HH4 HG24
 revert hF;refine zrc 5 [3] [6, 7, 8, 9, 10] fun a hF => ?_;refine seq_one ?_;revert hF;refine qe1 fun a hF => ?_
 have hn := World.alloc_heap_new w5 (.cells #[.int .i64 0, .int .i64 0] 23)
 have hb := Joins.below_alloc1 w5 (.cells #[.int .i64 0, .int .i64 0] 23)
 have HB6 : Hid (Below w.heap.size w (w5.alloc (.cells #[.int .i64 0, .int .i64 0] 23))) := HB5.out.trans (hb.mono HB5.out.size)
 have HO6 := Lib.hid (row_of_heap HO5.out fun b hb2 => hb.block b (HO5.out.lt b hb2).2)
 have HH6 := Lib.hid ((hb.block _ (lt_of_block HH5.out)).trans HH5.out)
 have HG26 := Lib.hid ((hb.block _ (lt_of_block HG25.out)).trans HG25.out)
 have HG36 := Lib.hid ((hb.block _ (lt_of_block HG35.out)).trans HG35.out)
 have HZ5 := HB5.out.size
 generalize w5.alloc (.cells #[.int .i64 0, .int .i64 0] 23) = w6 at *
 obtain ⟨g4, hgg⟩ : ∃ g, g = w5.heap.size := ⟨_, rfl⟩
 rw [← hgg] at hF hn HZ5
 have HG46 := Lib.hid hn
 clear hgg hn hb HB5 HO5 HH5 HG25 HG35
 revert hF;refine zrc 7 [6] [8, 9, 10] fun a hF => ?_;refine seq_one ?_;revert hF;refine qe1 fun a hF => ?_
 have hn := World.alloc_heap_new w6 (.cells #[.string ⟨#[108]⟩, .int .i64 0, .slice (some ⟨g2, 0, none⟩) 1 1, .slice none 0 0, .slice (some ⟨g3, 0, none⟩) 1 1, .slice none 0 0, .slice (some ⟨g4, 0, none⟩) 1 1, .int .i64 0] 32)
 have hb := Joins.below_alloc1 w6 (.cells #[.string ⟨#[108]⟩, .int .i64 0, .slice (some ⟨g2, 0, none⟩) 1 1, .slice none 0 0, .slice (some ⟨g3, 0, none⟩) 1 1, .slice none 0 0, .slice (some ⟨g4, 0, none⟩) 1 1, .int .i64 0] 32)
 have HB7 : Hid (Below w.heap.size w (w6.alloc (.cells #[.string ⟨#[108]⟩, .int .i64 0, .slice (some ⟨g2, 0, none⟩) 1 1, .slice none 0 0, .slice (some ⟨g3, 0, none⟩) 1 1, .slice none 0 0, .slice (some ⟨g4, 0, none⟩) 1 1, .int .i64 0] 32))) := HB6.out.trans (hb.mono HB6.out.size)
 have HO7 := Lib.hid (row_of_heap HO6.out fun b hb2 => hb.block b (HO6.out.lt b hb2).2)
 have HH7 := Lib.hid ((hb.block _ (lt_of_block HH6.out)).trans HH6.out)
 have HG27 := Lib.hid ((hb.block _ (lt_of_block HG26.out)).trans HG26.out)
 have HG37 := Lib.hid ((hb.block _ (lt_of_block HG36.out)).trans HG36.out)
 have HG47 := Lib.hid ((hb.block _ (lt_of_block HG46.out)).trans HG46.out)
 have HZ6 := HB6.out.size
 generalize w6.alloc (.cells #[.string ⟨#[108]⟩, .int .i64 0, .slice (some ⟨g2, 0, none⟩) 1 1, .slice none 0 0, .slice (some ⟨g3, 0, none⟩) 1 1, .slice none 0 0, .slice (some ⟨g4, 0, none⟩) 1 1, .int .i64 0] 32) = w7 at *
 obtain ⟨g5, hgg⟩ : ∃ g, g = w6.heap.size := ⟨_, rfl⟩
 rw [← hgg] at hF hn HZ6
 have HG57 := Lib.hid hn
 clear hgg hn hb HB6 HO6 HH6 HG26 HG36 HG46
 have hSV := run_storeVar_row (P := Tryz.prog) w7 gh 26 26 #[.string ⟨#[]⟩, .int .i64 0, .int .i64 0, .slice none 0 0] #[.string ⟨#[]⟩, .int .i64 0, .int .i64 0, .slice (some ⟨g5, 0, none⟩) 1 1] HH7.out (by kernel_rfl) rfl (by simp [Value.oneCell'])
 have hrow := setRow_heap w7 gh #[.string ⟨#[]⟩, .int .i64 0, .int .i64 0, .slice none 0 0] #[.string ⟨#[]⟩, .int .i64 0, .int .i64 0, .slice (some ⟨g5, 0, none⟩) 1 1] 26 (0, 0) HH7.out
 have HB8 : Hid (Below w.heap.size w (w7.setRow gh #[.string ⟨#[]⟩, .int .i64 0, .int .i64 0, .slice (some ⟨g5, 0, none⟩) 1 1])) := below_setRow HB7.out HGH.out _
 have HK : Hid (∀ {b : Nat} {A : Array Value} {T : TypeId} {x : Nat × Nat}, w7.heap[b]? = some (.cells A T x) → T ≠ 26 → (w7.setRow gh #[.string ⟨#[]⟩, .int .i64 0, .int .i64 0, .slice (some ⟨g5, 0, none⟩) 1 1]).heap[b]? = some (.cells A T x)) := fun {b A T x} hb hT => (setRow_other w7 _ (fun e => type_ne hb HH7.out hT e.symm)).trans hb
 have HO8 := Lib.hid (row_of_heap HO7.out fun b hb => by
  obtain ⟨cur, hh⟩ := own_type HO7.out hb
  exact (HK.out hh (by decide)).trans hh.symm)
 have HG28 := Lib.hid (HK.out HG27.out (by decide))
 have HG38 := Lib.hid (HK.out HG37.out (by decide))
 have HG48 := Lib.hid (HK.out HG47.out (by decide))
 have HG58 := Lib.hid (HK.out HG57.out (by decide))
 clear HK HB7 HO7 HG27 HG37 HG47 HG57 HH7
 revert hF;refine zrc 9 [4] [10] fun a hF => ?_;refine seq_one ?_;refine op_storev rfl rfl hF rfl rfl rfl rfl hSV ?_;clear hF;refine fun a hF => ?_;refine seq_end ?_;replace hF := hF.kp [4] rfl
 clear hSV
 refine hK _ _ ?_;clear hK
 generalize w7.setRow gh #[.string ⟨#[]⟩, .int .i64 0, .int .i64 0, .slice (some ⟨g5, 0, none⟩) 1 1] = w8 at *
 have hlv : (loadVar 26 ⟨gh, 0, none⟩).run Tryz.prog w8 = .ok (.agg #[.string ⟨#[]⟩, .int .i64 0, .int .i64 0, .slice (some ⟨g5, 0, none⟩) 1 1]) w8 := by
  have d0 : w8.cell? ⟨gh, 0, none⟩ = some (.string ⟨#[]⟩) := boxed_cell (j := 0) hrow rfl
  have d1 : w8.cell? ⟨gh, 1, none⟩ = some (.int .i64 0) := boxed_cell (j := 1) hrow rfl
  have d2 : w8.cell? ⟨gh, 2, none⟩ = some (.int .i64 0) := boxed_cell (j := 2) hrow rfl
  have d3 : w8.cell? ⟨gh, 3, none⟩ = some (.slice (some ⟨g5, 0, none⟩) 1 1) := boxed_cell (j := 3) hrow rfl
  clear hF
  go_simp
 refine wp_ret ?_
 try simp only [then_ret, block_ret, goto_ret]
 refine ret_cell (fn := Tryz.f12) rfl hF rfl hlv ?_
 refine ⟨la, lc, g2, g3, g4, g5, rfl, HB8.out, HZ6, ?_, HO8.out, HG28.out, HG38.out, HG58.out⟩
 obtain ⟨la', c', e, hr, _⟩ := Rcs.of_own HO8.out
 simp only [Value.slice.injEq] at e
 obtain ⟨rfl, _, _⟩ := e
 refine ex_in HG28.out HG38.out (recs_one HG48.out rfl) (by decide) (fun e => by cases e) HG58.out hr (by have := HLN.out; omega) fun r hr => ?_
 rw [← HRS.out] at hr
 rcases List.mem_cons.1 hr with rfl | hr
 ·
  exact HRI.out _ HB8.out
 ·
  exact (HMR.out r hr).below HB8.out
end Go.Proofs.YtmcdhggnpfhlmaaGreat

namespace Go.Proofs.YtmcdhggnpfhlmaaGreat
open Go.RowKit Go.IntWalk
set_option linter.unusedSimpArgs false
set_option linter.unusedVariables false

theorem flt_ext (x y : FaultR) : x = y ↔ x.err = y.err ∧ x.at' = y.at' ∧ x.other = y.other := by
 obtain ⟨a, b, c⟩ := x
 obtain ⟨a', b', c'⟩ := y
 simp

set_option maxHeartbeats 4000000 in
theorem equal_flt (x y : FaultR) (w : World) : Sem.run Tryz.prog (Op.equalIn 10000 55 (.agg #[.int .i64 x.err, .int .i64 x.at', .int .i64 x.other]) (.agg #[.int .i64 y.err, .int .i64 y.at', .int .i64 y.other])) w = .ok (decide (x = y)) w := by
 have u3 := Tryz.underlying3
 have a3 := Tryz.isAgg3
 have z3 := Tryz.sizeOf3
 have hS : Tryz.prog.underlying 55 = some (.struct (Tryz.prog.fieldsOf 55)) := by kernel_rfl
 have hp : Tryz.prog.stoodInHeld 55 = false := by kernel_rfl
 rw [show (10000 : Nat) = 9999 + 1 from rfl, run_equalIn_agg w 9999 55 _ _ hS hp]
 simp only [Program.fieldsOf, Tryz.underlying55]
 go_simp
 rw [show decide (x = y) = decide (x.err = y.err ∧ x.at' = y.at' ∧ x.other = y.other) from decide_eq_decide.mpr (flt_ext x y)]
 by_cases h0 : x.err = y.err
 rotate_left
 ·
  simp [h0]
 by_cases h1 : x.at' = y.at'
 rotate_left
 ·
  simp [h0, h1]
 by_cases h2 : x.other = y.other
 rotate_left
 ·
  simp [h0, h1, h2]
 simp [h0, h1, h2]
theorem neq_flt (x y : FaultR) (w : World) : Sem.run Tryz.prog (binOp .neq 55 (.agg #[.int .i64 x.err, .int .i64 x.at', .int .i64 x.other]) (.agg #[.int .i64 y.err, .int .i64 y.at', .int .i64 y.other])) w = .ok (.bool (!decide (x = y))) w := by
 rw [run_neq_struct, equal_flt]
 rfl
theorem guard_flt (op : BinOp) (p q : Operand) (x y : FaultR) (w : World) : Sem.run Tryz.prog (eqGuard op 55 p q (.agg #[.int .i64 x.err, .int .i64 x.at', .int .i64 x.other]) (.agg #[.int .i64 y.err, .int .i64 y.at', .int .i64 y.other])) w = .ok () w :=
 run_eqGuard_agg w op 55 p q _ _ (by kernel_rfl)

theorem plc_ext (x y : PlaceR) : x = y ↔ x.kind = y.kind ∧ x.level = y.level ∧ x.block = y.block ∧ x.row = y.row ∧ x.seat = y.seat ∧ x.x = y.x ∧ x.y = y.y ∧ x.view = y.view ∧ x.wth = y.wth := by
 obtain ⟨a, b, c, d, e, f, g, h, i⟩ := x
 obtain ⟨a', b', c', d', e', f', g', h', i'⟩ := y
 simp

set_option maxHeartbeats 4000000 in
theorem equal_plc (x y : PlaceR) (w : World) : Sem.run Tryz.prog (Op.equalIn 10000 52 (.agg #[.int .i64 x.kind, .int .i64 x.level, .int .i64 x.block, .int .i64 x.row, .int .i64 x.seat, .int .i64 x.x, .int .i64 x.y, .int .i64 x.view, .int .i64 x.wth]) (.agg #[.int .i64 y.kind, .int .i64 y.level, .int .i64 y.block, .int .i64 y.row, .int .i64 y.seat, .int .i64 y.x, .int .i64 y.y, .int .i64 y.view, .int .i64 y.wth])) w = .ok (decide (x = y)) w := by
 have u3 := Tryz.underlying3
 have a3 := Tryz.isAgg3
 have z3 := Tryz.sizeOf3
 have hS : Tryz.prog.underlying 52 = some (.struct (Tryz.prog.fieldsOf 52)) := by kernel_rfl
 have hp : Tryz.prog.stoodInHeld 52 = false := by kernel_rfl
 rw [show (10000 : Nat) = 9999 + 1 from rfl, run_equalIn_agg w 9999 52 _ _ hS hp]
 simp only [Program.fieldsOf, Tryz.underlying52]
 go_simp
 rw [show decide (x = y) = decide (x.kind = y.kind ∧ x.level = y.level ∧ x.block = y.block ∧ x.row = y.row ∧ x.seat = y.seat ∧ x.x = y.x ∧ x.y = y.y ∧ x.view = y.view ∧ x.wth = y.wth) from decide_eq_decide.mpr (plc_ext x y)]
 by_cases h0 : x.kind = y.kind
 rotate_left
 ·
  simp [h0]
 by_cases h1 : x.level = y.level
 rotate_left
 ·
  simp [h0, h1]
 by_cases h2 : x.block = y.block
 rotate_left
 ·
  simp [h0, h1, h2]
 by_cases h3 : x.row = y.row
 rotate_left
 ·
  simp [h0, h1, h2, h3]
 by_cases h4 : x.seat = y.seat
 rotate_left
 ·
  simp [h0, h1, h2, h3, h4]
 by_cases h5 : x.x = y.x
 rotate_left
 ·
  simp [h0, h1, h2, h3, h4, h5]
 by_cases h6 : x.y = y.y
 rotate_left
 ·
  simp [h0, h1, h2, h3, h4, h5, h6]
 by_cases h7 : x.view = y.view
 rotate_left
 ·
  simp [h0, h1, h2, h3, h4, h5, h6, h7]
 by_cases h8 : x.wth = y.wth
 rotate_left
 ·
  simp [h0, h1, h2, h3, h4, h5, h6, h7, h8]
 simp [h0, h1, h2, h3, h4, h5, h6, h7, h8]
theorem neq_plc (x y : PlaceR) (w : World) : Sem.run Tryz.prog (binOp .neq 52 (.agg #[.int .i64 x.kind, .int .i64 x.level, .int .i64 x.block, .int .i64 x.row, .int .i64 x.seat, .int .i64 x.x, .int .i64 x.y, .int .i64 x.view, .int .i64 x.wth]) (.agg #[.int .i64 y.kind, .int .i64 y.level, .int .i64 y.block, .int .i64 y.row, .int .i64 y.seat, .int .i64 y.x, .int .i64 y.y, .int .i64 y.view, .int .i64 y.wth])) w = .ok (.bool (!decide (x = y))) w := by
 rw [run_neq_struct, equal_plc]
 rfl
theorem guard_plc (op : BinOp) (p q : Operand) (x y : PlaceR) (w : World) : Sem.run Tryz.prog (eqGuard op 52 p q (.agg #[.int .i64 x.kind, .int .i64 x.level, .int .i64 x.block, .int .i64 x.row, .int .i64 x.seat, .int .i64 x.x, .int .i64 x.y, .int .i64 x.view, .int .i64 x.wth]) (.agg #[.int .i64 y.kind, .int .i64 y.level, .int .i64 y.block, .int .i64 y.row, .int .i64 y.seat, .int .i64 y.x, .int .i64 y.y, .int .i64 y.view, .int .i64 y.wth])) w = .ok () w :=
 run_eqGuard_agg w op 52 p q _ _ (by kernel_rfl)
end Go.Proofs.YtmcdhggnpfhlmaaGreat

namespace Go.Proofs.YtmcdhggnpfhlmaaGreat
open Go.RowKit Go.IntWalk
set_option linter.unusedSimpArgs false
set_option linter.unusedVariables false

set_option maxRecDepth 100000 in
set_option maxHeartbeats 8000000 in
theorem same_flt (w : World) (ra rb : Option Addr) (n c n2 c2 : Nat) (l m : List FaultR) (hl : Recs FaultE w ra n l) (hm : Recs FaultE w rb n2 m) (hn : n ≤ 9223372036854775807) (hn2 : n2 ≤ 9223372036854775807) :
  Calls Tryz.prog 11 #[.slice ra n c, .slice rb n2 c2] w fun e w' => e = .returned (.bool (decide (l = m))) ∧ Below w.heap.size w w' := by
 have HL := Lib.hid hl
 have HM := Lib.hid hm
 have HLL := Lib.hid hl.1
 have HML := Lib.hid hm.1
 have HT : Hid (l = m → (decide (l = m)) = true) := fun h => by simp [h]
 have HFF : Hid (l ≠ m → (decide (l = m)) = false) := fun h => by simp [h]
 clear hl hm
 generalize decide (l = m) = res at *
 refine enter_fr (N := 26) [.slice ra n c, .slice rb n2 c2] (Tryz.func11) rfl Tryz.ntmps11 (by rfl) (fun a hF => ?_);replace hF := hF.kp [0, 1] rfl;revert hF;refine zrs [2] [0, 1] fun a hF => ?_
 by_cases hnn : n = n2
 rotate_left
 ·
  have hb : ((n : Int) != (n2 : Int)) = true := by simp; omega
  have HE : Hid (res = false) := HFF.out (fun h => hnn (by rw [← HLL.out, ← HML.out, h]))
  refine wp_seq_k (fun K hK => ?_);revert hF;refine zrs [1, 4, 1, 4, 5] [0, 1, 10] fun a hF => ?_
  refine cond_yes hF rfl ?_
  revert hF;refine zrs [2] [4] fun a hF => ?_;refine wp_ret ?_;(try simp only [then_ret, block_ret, goto_ret]);revert hF;refine zq ?_
  exact ⟨by rw [HE.out]; rfl, Below.refl _ _⟩
 have hb : ((n : Int) != (n2 : Int)) = false := by simp [hnn]
 refine wp_seq_k (fun K hK => ?_);revert hF;refine zrs [1, 4, 1, 4, 5] [0, 1, 10] fun a hF => ?_
 refine cond_no hF rfl ?_
 refine wp_skip ?_
 refine hK _ _ ?_;clear hK
 clear hb
 subst hnn
 clear hn2
 refine wp_seq_k (fun KA hKA => ?_);revert hF;refine zrs [2] [0, 1, 5] fun a hF => ?_
 refine wp_block ?_
 refine loop_fr (fun k a' w' => ∃ i : Nat, i + k = n ∧ FrF 26 [] [(0, .slice ra n c), (1, .slice rb n c2), (5, .int .i64 i)] a' ∧ Hid (Below w.heap.size w w') ∧ Hid (∀ j (h1 : j < l.length) (h2 : j < m.length), j < i → l[j] = m[j])) n ⟨0, by omega, hF.sub ⟨rfl, rfl, rfl, trivial⟩, Below.refl _ _, fun j _ _ hj => absurd hj (Nat.not_lt_zero _)⟩ ?_
 clear hF
 rintro rk a wr ⟨i, hik, hF, HB, HP⟩ KB hKB
 refine wp_seq_k (fun K hK => ?_)
 by_cases hlt : i < n
 rotate_left
 ·
  have hil0 : ¬ (i : Int) < n := by omega
  revert hF;refine zrs [1, 1, 4, 5] [0, 1, 5, 14] fun a hF => ?_
  refine cond_no hF rfl ?_
  refine wp_exit ?_
  have HE : Hid (res = true) := HT.out (List.ext_getElem (by rw [HLL.out, HML.out]) fun j h1 h2 => HP.out j h1 h2 (by have := HLL.out; omega))
  refine hKA _ _ ?_;clear hKA;revert hF;refine zrs [2] [4] fun a hF => ?_;refine wp_ret ?_;(try simp only [then_ret, block_ret, goto_ret]);revert hF;refine zq ?_
  exact ⟨by rw [HE.out]; rfl, HB.out⟩
 have hii : (i : Int) < n := by omega
 revert hF;refine zrs [1, 1, 4, 5] [0, 1, 5, 14] fun a hF => ?_
 refine cond_yes hF rfl ?_
 refine wp_skip ?_
 refine hK _ _ ?_;clear hK;replace hF := hF.kp [0, 1, 5] rfl
 clear hKA
 have hil : i < l.length := by rw [HLL.out]; exact hlt
 have him : i < m.length := by rw [HML.out]; exact hlt
 refine seq_cut (fun a' w' => FrF 26 [] [(0, .slice ra n c), (1, .slice rb n c2), (5, .int .i64 i)] a' ∧ Hid (Below w.heap.size w w') ∧ Hid (∀ j (h1 : j < l.length) (h2 : j < m.length), j < i + 1 → l[j] = m[j])) (fun KC hKC => ?_) ?_
 rotate_left
 ·
  clear hF HP HB
  rintro a w' ⟨hF, HB, HP⟩
  have hws : IntKind.i64.wrap ((i : Int) + 1) = ((i + 1 : Nat) : Int) := wrap_succ (by omega)
  revert hF;refine zrg [1, 4, 2] [0, 1, 5] fun a hF => ?_
  exact hKB (n - (i + 1)) _ _ (by omega) ⟨i + 1, by omega, hF, HB, HP⟩
 clear hKB hik
 refine wp_block ?_
 refine wp_seq_k (fun K hK => ?_)
 have HBD : Hid (Below w.heap.size w wr.drew) := below_d HB.out
 obtain ⟨b1, o1, hra, d0, d1, d2⟩ := fault_at (w := wr.drew) (HL.out.below HBD.out) i hlt hil
 obtain ⟨b2, o2, hrb, e0, e1, e2⟩ := fault_at (w := wr.drew) (HM.out.below HBD.out) i (by omega) him
 have HNE : Hid (l[i] ≠ m[i] → l ≠ m) := fun h e => h (by subst e; rfl)
 have HPN : Hid (l[i] = m[i] → ∀ j (h1 : j < l.length) (h2 : j < m.length), j < i + 1 → l[j] = m[j]) := fun h j h1 h2 hji => by
  by_cases e : j = i
  ·
   subst e; exact h
  ·
   exact HP.out j h1 h2 (by omega)
 generalize l[i] = x at *
 generalize m[i] = y at *
 by_cases hxy : x = y
 ·
  have HXY := Lib.hid hxy
  have heq : ∀ wx, Sem.run Tryz.prog (binOp .neq 55 (.agg #[.int .i64 x.err, .int .i64 x.at', .int .i64 x.other]) (.agg #[.int .i64 y.err, .int .i64 y.at', .int .i64 y.other])) wx = .ok (.bool false) wx := fun wx => by
   rw [neq_flt]
   simp [hxy]
  have hgd : ∀ wx op p q, Sem.run Tryz.prog (eqGuard op 55 p q (.agg #[.int .i64 x.err, .int .i64 x.at', .int .i64 x.other]) (.agg #[.int .i64 y.err, .int .i64 y.at', .int .i64 y.other])) wx = .ok () wx := fun wx op p q => guard_flt op p q x y wx
  clear hxy
  refine region_any (by kernel_rfl) ?_;revert hF;refine zrb (fuel := 0) [1, 33, 74, 116, 129, 161, 202, 244, 266] [0, 1, 5, 25] fun a hF => ?_
  clear heq hgd hra hrb
  refine hK _ _ ?_;clear hK
  refine cond_no hF rfl ?_
  refine wp_skip ?_
  exact hKC _ _ ⟨hF.sub ⟨rfl, rfl, rfl, trivial⟩, HBD, HPN.out HXY.out⟩
 ·
  have HE : Hid (res = false) := HFF.out (HNE.out hxy)
  have heq : ∀ wx, Sem.run Tryz.prog (binOp .neq 55 (.agg #[.int .i64 x.err, .int .i64 x.at', .int .i64 x.other]) (.agg #[.int .i64 y.err, .int .i64 y.at', .int .i64 y.other])) wx = .ok (.bool true) wx := fun wx => by
   rw [neq_flt]
   simp [hxy]
  have hgd : ∀ wx op p q, Sem.run Tryz.prog (eqGuard op 55 p q (.agg #[.int .i64 x.err, .int .i64 x.at', .int .i64 x.other]) (.agg #[.int .i64 y.err, .int .i64 y.at', .int .i64 y.other])) wx = .ok () wx := fun wx op p q => guard_flt op p q x y wx
  clear hxy
  refine region_any (by kernel_rfl) ?_;revert hF;refine zrb (fuel := 0) [1, 33, 74, 116, 129, 161, 202, 244, 266] [0, 1, 5, 25] fun a hF => ?_
  clear heq hgd hra hrb
  refine hK _ _ ?_;clear hK
  refine cond_yes hF rfl ?_
  revert hF;refine zrs [2] [4] fun a hF => ?_;refine wp_ret ?_;(try simp only [then_ret, block_ret, goto_ret]);revert hF;refine zq ?_
  exact ⟨by rw [HE.out]; rfl, HBD.out⟩

set_option maxRecDepth 100000 in
set_option maxHeartbeats 8000000 in
theorem same_plc (w : World) (ra rb : Option Addr) (n c n2 c2 : Nat) (l m : List PlaceR) (hl : Recs PlaceE w ra n l) (hm : Recs PlaceE w rb n2 m) (hn : n ≤ 9223372036854775807) (hn2 : n2 ≤ 9223372036854775807) :
  Calls Tryz.prog 10 #[.slice ra n c, .slice rb n2 c2] w fun e w' => e = .returned (.bool (decide (l = m))) ∧ Below w.heap.size w w' := by
 have HL := Lib.hid hl
 have HM := Lib.hid hm
 have HLL := Lib.hid hl.1
 have HML := Lib.hid hm.1
 have HT : Hid (l = m → (decide (l = m)) = true) := fun h => by simp [h]
 have HFF : Hid (l ≠ m → (decide (l = m)) = false) := fun h => by simp [h]
 clear hl hm
 generalize decide (l = m) = res at *
 refine enter_fr (N := 26) [.slice ra n c, .slice rb n2 c2] (Tryz.func10) rfl Tryz.ntmps10 (by rfl) (fun a hF => ?_);replace hF := hF.kp [0, 1] rfl;revert hF;refine zrs [2] [0, 1] fun a hF => ?_
 by_cases hnn : n = n2
 rotate_left
 ·
  have hb : ((n : Int) != (n2 : Int)) = true := by simp; omega
  have HE : Hid (res = false) := HFF.out (fun h => hnn (by rw [← HLL.out, ← HML.out, h]))
  refine wp_seq_k (fun K hK => ?_);revert hF;refine zrs [1, 4, 1, 4, 5] [0, 1, 10] fun a hF => ?_
  refine cond_yes hF rfl ?_
  revert hF;refine zrs [2] [4] fun a hF => ?_;refine wp_ret ?_;(try simp only [then_ret, block_ret, goto_ret]);revert hF;refine zq ?_
  exact ⟨by rw [HE.out]; rfl, Below.refl _ _⟩
 have hb : ((n : Int) != (n2 : Int)) = false := by simp [hnn]
 refine wp_seq_k (fun K hK => ?_);revert hF;refine zrs [1, 4, 1, 4, 5] [0, 1, 10] fun a hF => ?_
 refine cond_no hF rfl ?_
 refine wp_skip ?_
 refine hK _ _ ?_;clear hK
 clear hb
 subst hnn
 clear hn2
 refine wp_seq_k (fun KA hKA => ?_);revert hF;refine zrs [2] [0, 1, 5] fun a hF => ?_
 refine wp_block ?_
 refine loop_fr (fun k a' w' => ∃ i : Nat, i + k = n ∧ FrF 26 [] [(0, .slice ra n c), (1, .slice rb n c2), (5, .int .i64 i)] a' ∧ Hid (Below w.heap.size w w') ∧ Hid (∀ j (h1 : j < l.length) (h2 : j < m.length), j < i → l[j] = m[j])) n ⟨0, by omega, hF.sub ⟨rfl, rfl, rfl, trivial⟩, Below.refl _ _, fun j _ _ hj => absurd hj (Nat.not_lt_zero _)⟩ ?_
 clear hF
 rintro rk a wr ⟨i, hik, hF, HB, HP⟩ KB hKB
 refine wp_seq_k (fun K hK => ?_)
 by_cases hlt : i < n
 rotate_left
 ·
  have hil0 : ¬ (i : Int) < n := by omega
  revert hF;refine zrs [1, 1, 4, 5] [0, 1, 5, 14] fun a hF => ?_
  refine cond_no hF rfl ?_
  refine wp_exit ?_
  have HE : Hid (res = true) := HT.out (List.ext_getElem (by rw [HLL.out, HML.out]) fun j h1 h2 => HP.out j h1 h2 (by have := HLL.out; omega))
  refine hKA _ _ ?_;clear hKA;revert hF;refine zrs [2] [4] fun a hF => ?_;refine wp_ret ?_;(try simp only [then_ret, block_ret, goto_ret]);revert hF;refine zq ?_
  exact ⟨by rw [HE.out]; rfl, HB.out⟩
 have hii : (i : Int) < n := by omega
 revert hF;refine zrs [1, 1, 4, 5] [0, 1, 5, 14] fun a hF => ?_
 refine cond_yes hF rfl ?_
 refine wp_skip ?_
 refine hK _ _ ?_;clear hK;replace hF := hF.kp [0, 1, 5] rfl
 clear hKA
 have hil : i < l.length := by rw [HLL.out]; exact hlt
 have him : i < m.length := by rw [HML.out]; exact hlt
 refine seq_cut (fun a' w' => FrF 26 [] [(0, .slice ra n c), (1, .slice rb n c2), (5, .int .i64 i)] a' ∧ Hid (Below w.heap.size w w') ∧ Hid (∀ j (h1 : j < l.length) (h2 : j < m.length), j < i + 1 → l[j] = m[j])) (fun KC hKC => ?_) ?_
 rotate_left
 ·
  clear hF HP HB
  rintro a w' ⟨hF, HB, HP⟩
  have hws : IntKind.i64.wrap ((i : Int) + 1) = ((i + 1 : Nat) : Int) := wrap_succ (by omega)
  revert hF;refine zrg [1, 4, 2] [0, 1, 5] fun a hF => ?_
  exact hKB (n - (i + 1)) _ _ (by omega) ⟨i + 1, by omega, hF, HB, HP⟩
 clear hKB hik
 refine wp_block ?_
 refine wp_seq_k (fun K hK => ?_)
 have HBD : Hid (Below w.heap.size w wr.drew) := below_d HB.out
 obtain ⟨b1, o1, hra, d0, d1, d2, d3, d4, d5, d6, d7, d8⟩ := place_at (w := wr.drew) (HL.out.below HBD.out) i hlt hil
 obtain ⟨b2, o2, hrb, e0, e1, e2, e3, e4, e5, e6, e7, e8⟩ := place_at (w := wr.drew) (HM.out.below HBD.out) i (by omega) him
 have HNE : Hid (l[i] ≠ m[i] → l ≠ m) := fun h e => h (by subst e; rfl)
 have HPN : Hid (l[i] = m[i] → ∀ j (h1 : j < l.length) (h2 : j < m.length), j < i + 1 → l[j] = m[j]) := fun h j h1 h2 hji => by
  by_cases e : j = i
  ·
   subst e; exact h
  ·
   exact HP.out j h1 h2 (by omega)
 generalize l[i] = x at *
 generalize m[i] = y at *
 by_cases hxy : x = y
 ·
  have HXY := Lib.hid hxy
  have heq : ∀ wx, Sem.run Tryz.prog (binOp .neq 52 (.agg #[.int .i64 x.kind, .int .i64 x.level, .int .i64 x.block, .int .i64 x.row, .int .i64 x.seat, .int .i64 x.x, .int .i64 x.y, .int .i64 x.view, .int .i64 x.wth]) (.agg #[.int .i64 y.kind, .int .i64 y.level, .int .i64 y.block, .int .i64 y.row, .int .i64 y.seat, .int .i64 y.x, .int .i64 y.y, .int .i64 y.view, .int .i64 y.wth])) wx = .ok (.bool false) wx := fun wx => by
   rw [neq_plc]
   simp [hxy]
  have hgd : ∀ wx op p q, Sem.run Tryz.prog (eqGuard op 52 p q (.agg #[.int .i64 x.kind, .int .i64 x.level, .int .i64 x.block, .int .i64 x.row, .int .i64 x.seat, .int .i64 x.x, .int .i64 x.y, .int .i64 x.view, .int .i64 x.wth]) (.agg #[.int .i64 y.kind, .int .i64 y.level, .int .i64 y.block, .int .i64 y.row, .int .i64 y.seat, .int .i64 y.x, .int .i64 y.y, .int .i64 y.view, .int .i64 y.wth])) wx = .ok () wx := fun wx op p q => guard_plc op p q x y wx
  clear hxy
  refine region_any (by kernel_rfl) ?_;revert hF;refine zrb (fuel := 0) [1, 33, 74, 116, 129, 161, 202, 244, 266] [0, 1, 5, 25] fun a hF => ?_
  clear heq hgd hra hrb
  refine hK _ _ ?_;clear hK
  refine cond_no hF rfl ?_
  refine wp_skip ?_
  exact hKC _ _ ⟨hF.sub ⟨rfl, rfl, rfl, trivial⟩, HBD, HPN.out HXY.out⟩
 ·
  have HE : Hid (res = false) := HFF.out (HNE.out hxy)
  have heq : ∀ wx, Sem.run Tryz.prog (binOp .neq 52 (.agg #[.int .i64 x.kind, .int .i64 x.level, .int .i64 x.block, .int .i64 x.row, .int .i64 x.seat, .int .i64 x.x, .int .i64 x.y, .int .i64 x.view, .int .i64 x.wth]) (.agg #[.int .i64 y.kind, .int .i64 y.level, .int .i64 y.block, .int .i64 y.row, .int .i64 y.seat, .int .i64 y.x, .int .i64 y.y, .int .i64 y.view, .int .i64 y.wth])) wx = .ok (.bool true) wx := fun wx => by
   rw [neq_plc]
   simp [hxy]
  have hgd : ∀ wx op p q, Sem.run Tryz.prog (eqGuard op 52 p q (.agg #[.int .i64 x.kind, .int .i64 x.level, .int .i64 x.block, .int .i64 x.row, .int .i64 x.seat, .int .i64 x.x, .int .i64 x.y, .int .i64 x.view, .int .i64 x.wth]) (.agg #[.int .i64 y.kind, .int .i64 y.level, .int .i64 y.block, .int .i64 y.row, .int .i64 y.seat, .int .i64 y.x, .int .i64 y.y, .int .i64 y.view, .int .i64 y.wth])) wx = .ok () wx := fun wx op p q => guard_plc op p q x y wx
  clear hxy
  refine region_any (by kernel_rfl) ?_;revert hF;refine zrb (fuel := 0) [1, 33, 74, 116, 129, 161, 202, 244, 266] [0, 1, 5, 25] fun a hF => ?_
  clear heq hgd hra hrb
  refine hK _ _ ?_;clear hK
  refine cond_yes hF rfl ?_
  revert hF;refine zrs [2] [4] fun a hF => ?_;refine wp_ret ?_;(try simp only [then_ret, block_ret, goto_ret]);revert hF;refine zq ?_
  exact ⟨by rw [HE.out]; rfl, HBD.out⟩
end Go.Proofs.YtmcdhggnpfhlmaaGreat
