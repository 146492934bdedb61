/- hall: structs in blocks of their own; the checker's closures. -/
import Derived.Test.YtmcdhggnpfhlmaaQHCB08

namespace Go.Proofs.Ytmcdhggnpfhlmaa
open Go.RowKit Go.IntWalk
set_option linter.unusedSimpArgs false
set_option linter.unusedVariables false

theorem LevIn.cells {w : World} {g : Nat} {x : LevR} (h : LevIn w g x) : w.cell? ⟨g, 0, none⟩ = some (.string (bs x.name)) ∧ w.cell? ⟨g, 1, none⟩ = some (.int .i64 x.height) ∧ w.cell? ⟨g, 2, none⟩ = some (.slice x.ba x.bn x.bc) ∧ w.cell? ⟨g, 3, none⟩ = some (.slice x.aa x.an x.ac) ∧ w.cell? ⟨g, 4, none⟩ = some (.slice x.sa x.sn x.sc) ∧ w.cell? ⟨g, 5, none⟩ = some (.slice x.pa x.pn x.pc) ∧ w.cell? ⟨g, 6, none⟩ = some (.slice x.da x.dn x.dc) ∧ w.cell? ⟨g, 7, none⟩ = some (.int .i64 x.at') :=
  ⟨boxed_cell (j := 0) h rfl, boxed_cell (j := 1) h rfl, boxed_cell (j := 2) h rfl, boxed_cell (j := 3) h rfl, boxed_cell (j := 4) h rfl, boxed_cell (j := 5) h rfl, boxed_cell (j := 6) h rfl, boxed_cell (j := 7) h rfl⟩
theorem LevIn.down {w w' : World} {g : Nat} {x : LevR} (h : LevIn w g x) (hb : Below w.heap.size w w') : LevIn w' g x := (hb.block g (lt_of_block h)).trans h

/-- In a block of its own. -/
def RowIn (w : World) (g : Nat) (x : RowR) : Prop := w.heap[g]? = some (.cells #[.string (bs x.name), .int .i64 x.x, .int .i64 x.y, .int .i64 x.fr, .int .i64 x.to, .int .i64 x.step, .slice x.ma x.mn x.mc, .int .i64 x.at'] 54 (0, 0))
theorem RowIn.cells {w : World} {g : Nat} {x : RowR} (h : RowIn w g x) : w.cell? ⟨g, 0, none⟩ = some (.string (bs x.name)) ∧ w.cell? ⟨g, 1, none⟩ = some (.int .i64 x.x) ∧ w.cell? ⟨g, 2, none⟩ = some (.int .i64 x.y) ∧ w.cell? ⟨g, 3, none⟩ = some (.int .i64 x.fr) ∧ w.cell? ⟨g, 4, none⟩ = some (.int .i64 x.to) ∧ w.cell? ⟨g, 5, none⟩ = some (.int .i64 x.step) ∧ w.cell? ⟨g, 6, none⟩ = some (.slice x.ma x.mn x.mc) ∧ w.cell? ⟨g, 7, none⟩ = some (.int .i64 x.at') :=
  ⟨boxed_cell (j := 0) h rfl, boxed_cell (j := 1) h rfl, boxed_cell (j := 2) h rfl, boxed_cell (j := 3) h rfl, boxed_cell (j := 4) h rfl, boxed_cell (j := 5) h rfl, boxed_cell (j := 6) h rfl, boxed_cell (j := 7) h rfl⟩
theorem RowIn.down {w w' : World} {g : Nat} {x : RowR} (h : RowIn w g x) (hb : Below w.heap.size w w') : RowIn w' g x := (hb.block g (lt_of_block h)).trans h

/-- In a block of its own. -/
def BlkIn (w : World) (g : Nat) (x : BlkR) : Prop := w.heap[g]? = some (.cells #[.string (bs x.name), .slice x.ra x.rn x.rc, .int .i64 x.at'] 57 (0, 0))
theorem BlkIn.cells {w : World} {g : Nat} {x : BlkR} (h : BlkIn w g x) : w.cell? ⟨g, 0, none⟩ = some (.string (bs x.name)) ∧ w.cell? ⟨g, 1, none⟩ = some (.slice x.ra x.rn x.rc) ∧ w.cell? ⟨g, 2, none⟩ = some (.int .i64 x.at') :=
  ⟨boxed_cell (j := 0) h rfl, boxed_cell (j := 1) h rfl, boxed_cell (j := 2) h rfl⟩
theorem BlkIn.down {w w' : World} {g : Nat} {x : BlkR} (h : BlkIn w g x) (hb : Below w.heap.size w w') : BlkIn w' g x := (hb.block g (lt_of_block h)).trans h

/-- In a block of its own. -/
def AreaIn (w : World) (g : Nat) (x : AreaR) : Prop := w.heap[g]? = some (.cells #[.string (bs x.name), .int .i64 x.box.x, .int .i64 x.box.y, .int .i64 x.box.x2, .int .i64 x.box.y2, .int .i64 x.holds, .int .i64 x.at'] 48 (0, 0))
theorem AreaIn.cells {w : World} {g : Nat} {x : AreaR} (h : AreaIn w g x) : w.cell? ⟨g, 0, none⟩ = some (.string (bs x.name)) ∧ w.cell? ⟨g, 1, none⟩ = some (.int .i64 x.box.x) ∧ w.cell? ⟨g, 2, none⟩ = some (.int .i64 x.box.y) ∧ w.cell? ⟨g, 3, none⟩ = some (.int .i64 x.box.x2) ∧ w.cell? ⟨g, 4, none⟩ = some (.int .i64 x.box.y2) ∧ w.cell? ⟨g, 5, none⟩ = some (.int .i64 x.holds) ∧ w.cell? ⟨g, 6, none⟩ = some (.int .i64 x.at') :=
  ⟨boxed_cell (j := 0) h rfl, boxed_cell (j := 1) h rfl, boxed_cell (j := 2) h rfl, boxed_cell (j := 3) h rfl, boxed_cell (j := 4) h rfl, boxed_cell (j := 5) h rfl, boxed_cell (j := 6) h rfl⟩
theorem AreaIn.down {w w' : World} {g : Nat} {x : AreaR} (h : AreaIn w g x) (hb : Below w.heap.size w w') : AreaIn w' g x := (hb.block g (lt_of_block h)).trans h

/-- In a block of its own. -/
def MarkIn (w : World) (g : Nat) (x : MarkR) : Prop := w.heap[g]? = some (.cells #[.int .i64 x.kind, .int .i64 x.seat, .int .i64 x.wth] 68 (0, 0))
theorem MarkIn.cells {w : World} {g : Nat} {x : MarkR} (h : MarkIn w g x) : w.cell? ⟨g, 0, none⟩ = some (.int .i64 x.kind) ∧ w.cell? ⟨g, 1, none⟩ = some (.int .i64 x.seat) ∧ w.cell? ⟨g, 2, none⟩ = some (.int .i64 x.wth) :=
  ⟨boxed_cell (j := 0) h rfl, boxed_cell (j := 1) h rfl, boxed_cell (j := 2) h rfl⟩
theorem MarkIn.down {w w' : World} {g : Nat} {x : MarkR} (h : MarkIn w g x) (hb : Below w.heap.size w w') : MarkIn w' g x := (hb.block g (lt_of_block h)).trans h

set_option maxRecDepth 100000 in
set_option maxHeartbeats 8000000 in
theorem cl_level (w : World) (x : LevR) (gl : Nat) (l : LevR) (h : LevIn w gl l) :
    Calls Try.prog 38 #[.agg #[.string (bs x.name), .int .i64 x.height, .slice x.ba x.bn x.bc, .slice x.aa x.an x.ac, .slice x.sa x.sn x.sc, .slice x.pa x.pn x.pc, .slice x.da x.dn x.dc, .int .i64 x.at'], .pointer (some ⟨gl, 0, none⟩)] w fun e w' => e = .returned (.bool (decide (x.name = l.name))) ∧ Below w.heap.size w w' := by
  have HL := Lib.hid h
  have hb := bs_beq x.name l.name
  clear h
  refine enter_fr (N := 9) [.agg #[.string (bs x.name), .int .i64 x.height, .slice x.ba x.bn x.bc, .slice x.aa x.an x.ac, .slice x.sa x.sn x.sc, .slice x.pa x.pn x.pc, .slice x.da x.dn x.dc, .int .i64 x.at'], .pointer (some ⟨gl, 0, none⟩)] (Try.func38) rfl Try.ntmps38 (by rfl) (fun a hF => ?_);replace hF := hF.kp [0, 1] rfl;refine wp_seq_k (fun K hK => ?_);refine region_seq (l := [0, 1]) (by kernel_rfl) ?_;refine seq_one ?_;refine ze1 0 rfl rfl rfl hF rfl rfl ?_;clear hF;refine fun a hF => ?_;refine seq_ck [1] [] hF fun C hC => ?_;clear hF;refine za rfl rfl rfl ?_;refine hC _ (fun a hF => ?_);clear hC C;refine seq_end ?_;replace hF := hF.kp [1, 2] rfl;refine hK _ _ ?_;clear hK;(try clear K)
  have HB := Lib.hid (Joins.below_alloc1 w (.cells #[.string (bs x.name), .int .i64 x.height, .slice x.ba x.bn x.bc, .slice x.aa x.an x.ac, .slice x.sa x.sn x.sc, .slice x.pa x.pn x.pc, .slice x.da x.dn x.dc, .int .i64 x.at'] 43))
  have HX : Hid ((w.alloc (.cells #[.string (bs x.name), .int .i64 x.height, .slice x.ba x.bn x.bc, .slice x.aa x.an x.ac, .slice x.sa x.sn x.sc, .slice x.pa x.pn x.pc, .slice x.da x.dn x.dc, .int .i64 x.at'] 43)).heap[w.heap.size]? = some (.cells #[.string (bs x.name), .int .i64 x.height, .slice x.ba x.bn x.bc, .slice x.aa x.an x.ac, .slice x.sa x.sn x.sc, .slice x.pa x.pn x.pc, .slice x.da x.dn x.dc, .int .i64 x.at'] 43 (0, 0))) := World.alloc_heap_new w _
  have HL1 := Lib.hid (HL.out.down HB.out)
  clear HL
  generalize w.alloc (.cells #[.string (bs x.name), .int .i64 x.height, .slice x.ba x.bn x.bc, .slice x.aa x.an x.ac, .slice x.sa x.sn x.sc, .slice x.pa x.pn x.pc, .slice x.da x.dn x.dc, .int .i64 x.at'] 43) = w1 at *
  generalize w.heap.size = g at *
  have c0 : w1.cell? ⟨g, 0, none⟩ = some (.string (bs x.name)) := boxed_cell (j := 0) HX.out rfl
  have d0 : w1.cell? ⟨gl, 0, none⟩ = some (.string (bs l.name)) := boxed_cell (j := 0) HL1.out rfl
  refine wp_seq_k (fun K hK => ?_);refine region_sk [0, 1, 2, 3, 4, 5] [] hF fun C hC => ?_;clear hF;refine zs1 2 rfl rfl ?_;refine zs1 4 rfl rfl ?_;refine zs1 1 rfl rfl ?_;refine zs1 6 rfl rfl ?_;refine zs2 5 7 rfl rfl rfl ?_;refine za rfl rfl rfl ?_;refine hC _ (fun a hF => ?_);clear hC C;refine seq_end ?_;replace hF := hF.kp [3] rfl;refine hK _ _ ?_;clear hK;(try clear K);refine wp_ret ?_;(try simp only [then_ret, block_ret, goto_ret]);refine ret_fr (fn := Try.f38) (rs := [.tmp 3]) rfl [_] hF ⟨rfl, trivial⟩ ?_
  exact ⟨rfl, HB.out⟩

set_option maxRecDepth 100000 in
set_option maxHeartbeats 8000000 in
theorem cl_row (w : World) (x : RowR) (gl : Nat) (l : RowR) (h : RowIn w gl l) :
    Calls Try.prog 47 #[.agg #[.string (bs x.name), .int .i64 x.x, .int .i64 x.y, .int .i64 x.fr, .int .i64 x.to, .int .i64 x.step, .slice x.ma x.mn x.mc, .int .i64 x.at'], .pointer (some ⟨gl, 0, none⟩)] w fun e w' => e = .returned (.bool (decide (x.name = l.name))) ∧ Below w.heap.size w w' := by
  have HL := Lib.hid h
  have hb := bs_beq x.name l.name
  clear h
  refine enter_fr (N := 9) [.agg #[.string (bs x.name), .int .i64 x.x, .int .i64 x.y, .int .i64 x.fr, .int .i64 x.to, .int .i64 x.step, .slice x.ma x.mn x.mc, .int .i64 x.at'], .pointer (some ⟨gl, 0, none⟩)] (Try.func47) rfl Try.ntmps47 (by rfl) (fun a hF => ?_);replace hF := hF.kp [0, 1] rfl;refine wp_seq_k (fun K hK => ?_);refine region_seq (l := [0, 1]) (by kernel_rfl) ?_;refine seq_one ?_;refine ze1 0 rfl rfl rfl hF rfl rfl ?_;clear hF;refine fun a hF => ?_;refine seq_ck [1] [] hF fun C hC => ?_;clear hF;refine za rfl rfl rfl ?_;refine hC _ (fun a hF => ?_);clear hC C;refine seq_end ?_;replace hF := hF.kp [1, 2] rfl;refine hK _ _ ?_;clear hK;(try clear K)
  have HB := Lib.hid (Joins.below_alloc1 w (.cells #[.string (bs x.name), .int .i64 x.x, .int .i64 x.y, .int .i64 x.fr, .int .i64 x.to, .int .i64 x.step, .slice x.ma x.mn x.mc, .int .i64 x.at'] 54))
  have HX : Hid ((w.alloc (.cells #[.string (bs x.name), .int .i64 x.x, .int .i64 x.y, .int .i64 x.fr, .int .i64 x.to, .int .i64 x.step, .slice x.ma x.mn x.mc, .int .i64 x.at'] 54)).heap[w.heap.size]? = some (.cells #[.string (bs x.name), .int .i64 x.x, .int .i64 x.y, .int .i64 x.fr, .int .i64 x.to, .int .i64 x.step, .slice x.ma x.mn x.mc, .int .i64 x.at'] 54 (0, 0))) := World.alloc_heap_new w _
  have HL1 := Lib.hid (HL.out.down HB.out)
  clear HL
  generalize w.alloc (.cells #[.string (bs x.name), .int .i64 x.x, .int .i64 x.y, .int .i64 x.fr, .int .i64 x.to, .int .i64 x.step, .slice x.ma x.mn x.mc, .int .i64 x.at'] 54) = w1 at *
  generalize w.heap.size = g at *
  have c0 : w1.cell? ⟨g, 0, none⟩ = some (.string (bs x.name)) := boxed_cell (j := 0) HX.out rfl
  have d0 : w1.cell? ⟨gl, 0, none⟩ = some (.string (bs l.name)) := boxed_cell (j := 0) HL1.out rfl
  refine wp_seq_k (fun K hK => ?_);refine region_sk [0, 1, 2, 3, 4, 5] [] hF fun C hC => ?_;clear hF;refine zs1 2 rfl rfl ?_;refine zs1 4 rfl rfl ?_;refine zs1 1 rfl rfl ?_;refine zs1 6 rfl rfl ?_;refine zs2 5 7 rfl rfl rfl ?_;refine za rfl rfl rfl ?_;refine hC _ (fun a hF => ?_);clear hC C;refine seq_end ?_;replace hF := hF.kp [3] rfl;refine hK _ _ ?_;clear hK;(try clear K);refine wp_ret ?_;(try simp only [then_ret, block_ret, goto_ret]);refine ret_fr (fn := Try.f47) (rs := [.tmp 3]) rfl [_] hF ⟨rfl, trivial⟩ ?_
  exact ⟨rfl, HB.out⟩

set_option maxRecDepth 100000 in
set_option maxHeartbeats 8000000 in
theorem cl_area1 (w : World) (x : BlkR) (gl : Nat) (l : AreaR) (h : AreaIn w gl l) :
    Calls Try.prog 50 #[.agg #[.string (bs x.name), .slice x.ra x.rn x.rc, .int .i64 x.at'], .pointer (some ⟨gl, 0, none⟩)] w fun e w' => e = .returned (.bool (decide (x.name = l.name))) ∧ Below w.heap.size w w' := by
  have HL := Lib.hid h
  have hb := bs_beq x.name l.name
  clear h
  refine enter_fr (N := 9) [.agg #[.string (bs x.name), .slice x.ra x.rn x.rc, .int .i64 x.at'], .pointer (some ⟨gl, 0, none⟩)] (Try.func50) rfl Try.ntmps50 (by rfl) (fun a hF => ?_);replace hF := hF.kp [0, 1] rfl;refine wp_seq_k (fun K hK => ?_);refine region_seq (l := [0, 1]) (by kernel_rfl) ?_;refine seq_one ?_;refine ze1 0 rfl rfl rfl hF rfl rfl ?_;clear hF;refine fun a hF => ?_;refine seq_ck [1] [] hF fun C hC => ?_;clear hF;refine za rfl rfl rfl ?_;refine hC _ (fun a hF => ?_);clear hC C;refine seq_end ?_;replace hF := hF.kp [1, 2] rfl;refine hK _ _ ?_;clear hK;(try clear K)
  have HB := Lib.hid (Joins.below_alloc1 w (.cells #[.string (bs x.name), .slice x.ra x.rn x.rc, .int .i64 x.at'] 57))
  have HX : Hid ((w.alloc (.cells #[.string (bs x.name), .slice x.ra x.rn x.rc, .int .i64 x.at'] 57)).heap[w.heap.size]? = some (.cells #[.string (bs x.name), .slice x.ra x.rn x.rc, .int .i64 x.at'] 57 (0, 0))) := World.alloc_heap_new w _
  have HL1 := Lib.hid (HL.out.down HB.out)
  clear HL
  generalize w.alloc (.cells #[.string (bs x.name), .slice x.ra x.rn x.rc, .int .i64 x.at'] 57) = w1 at *
  generalize w.heap.size = g at *
  have c0 : w1.cell? ⟨g, 0, none⟩ = some (.string (bs x.name)) := boxed_cell (j := 0) HX.out rfl
  have d0 : w1.cell? ⟨gl, 0, none⟩ = some (.string (bs l.name)) := boxed_cell (j := 0) HL1.out rfl
  refine wp_seq_k (fun K hK => ?_);refine region_sk [0, 1, 2, 3, 4, 5] [] hF fun C hC => ?_;clear hF;refine zs1 2 rfl rfl ?_;refine zs1 4 rfl rfl ?_;refine zs1 1 rfl rfl ?_;refine zs1 6 rfl rfl ?_;refine zs2 5 7 rfl rfl rfl ?_;refine za rfl rfl rfl ?_;refine hC _ (fun a hF => ?_);clear hC C;refine seq_end ?_;replace hF := hF.kp [3] rfl;refine hK _ _ ?_;clear hK;(try clear K);refine wp_ret ?_;(try simp only [then_ret, block_ret, goto_ret]);refine ret_fr (fn := Try.f50) (rs := [.tmp 3]) rfl [_] hF ⟨rfl, trivial⟩ ?_
  exact ⟨rfl, HB.out⟩

set_option maxRecDepth 100000 in
set_option maxHeartbeats 8000000 in
theorem cl_area2 (w : World) (x : AreaR) (gl : Nat) (l : AreaR) (h : AreaIn w gl l) :
    Calls Try.prog 52 #[.agg #[.string (bs x.name), .int .i64 x.box.x, .int .i64 x.box.y, .int .i64 x.box.x2, .int .i64 x.box.y2, .int .i64 x.holds, .int .i64 x.at'], .pointer (some ⟨gl, 0, none⟩)] w fun e w' => e = .returned (.bool (decide (x.name = l.name))) ∧ Below w.heap.size w w' := by
  have HL := Lib.hid h
  have hb := bs_beq x.name l.name
  clear h
  refine enter_fr (N := 9) [.agg #[.string (bs x.name), .int .i64 x.box.x, .int .i64 x.box.y, .int .i64 x.box.x2, .int .i64 x.box.y2, .int .i64 x.holds, .int .i64 x.at'], .pointer (some ⟨gl, 0, none⟩)] (Try.func52) rfl Try.ntmps52 (by rfl) (fun a hF => ?_);replace hF := hF.kp [0, 1] rfl;refine wp_seq_k (fun K hK => ?_);refine region_seq (l := [0, 1]) (by kernel_rfl) ?_;refine seq_one ?_;refine ze1 0 rfl rfl rfl hF rfl rfl ?_;clear hF;refine fun a hF => ?_;refine seq_ck [1] [] hF fun C hC => ?_;clear hF;refine za rfl rfl rfl ?_;refine hC _ (fun a hF => ?_);clear hC C;refine seq_end ?_;replace hF := hF.kp [1, 2] rfl;refine hK _ _ ?_;clear hK;(try clear K)
  have HB := Lib.hid (Joins.below_alloc1 w (.cells #[.string (bs x.name), .int .i64 x.box.x, .int .i64 x.box.y, .int .i64 x.box.x2, .int .i64 x.box.y2, .int .i64 x.holds, .int .i64 x.at'] 48))
  have HX : Hid ((w.alloc (.cells #[.string (bs x.name), .int .i64 x.box.x, .int .i64 x.box.y, .int .i64 x.box.x2, .int .i64 x.box.y2, .int .i64 x.holds, .int .i64 x.at'] 48)).heap[w.heap.size]? = some (.cells #[.string (bs x.name), .int .i64 x.box.x, .int .i64 x.box.y, .int .i64 x.box.x2, .int .i64 x.box.y2, .int .i64 x.holds, .int .i64 x.at'] 48 (0, 0))) := World.alloc_heap_new w _
  have HL1 := Lib.hid (HL.out.down HB.out)
  clear HL
  generalize w.alloc (.cells #[.string (bs x.name), .int .i64 x.box.x, .int .i64 x.box.y, .int .i64 x.box.x2, .int .i64 x.box.y2, .int .i64 x.holds, .int .i64 x.at'] 48) = w1 at *
  generalize w.heap.size = g at *
  have c0 : w1.cell? ⟨g, 0, none⟩ = some (.string (bs x.name)) := boxed_cell (j := 0) HX.out rfl
  have d0 : w1.cell? ⟨gl, 0, none⟩ = some (.string (bs l.name)) := boxed_cell (j := 0) HL1.out rfl
  refine wp_seq_k (fun K hK => ?_);refine region_sk [0, 1, 2, 3, 4, 5] [] hF fun C hC => ?_;clear hF;refine zs1 2 rfl rfl ?_;refine zs1 4 rfl rfl ?_;refine zs1 1 rfl rfl ?_;refine zs1 6 rfl rfl ?_;refine zs2 5 7 rfl rfl rfl ?_;refine za rfl rfl rfl ?_;refine hC _ (fun a hF => ?_);clear hC C;refine seq_end ?_;replace hF := hF.kp [3] rfl;refine hK _ _ ?_;clear hK;(try clear K);refine wp_ret ?_;(try simp only [then_ret, block_ret, goto_ret]);refine ret_fr (fn := Try.f52) (rs := [.tmp 3]) rfl [_] hF ⟨rfl, trivial⟩ ?_
  exact ⟨rfl, HB.out⟩

set_option maxRecDepth 100000 in
set_option maxHeartbeats 8000000 in
theorem cl_box (w : World) (b : BoxR) :
    Calls Try.prog 41 #[.agg #[.int .i64 b.x, .int .i64 b.y, .int .i64 b.x2, .int .i64 b.y2]] w fun e w' => e = .returned (.bool (!boxB b)) ∧ Below w.heap.size w w' := by
  refine enter_fr (N := 6) [.agg #[.int .i64 b.x, .int .i64 b.y, .int .i64 b.x2, .int .i64 b.y2]] (Try.func41) rfl Try.ntmps41 (by rfl) (fun a hF => ?_);replace hF := hF.kp [0] rfl;refine wp_seq_k (fun K hK => ?_);refine region_seq (l := [0, 1]) (by kernel_rfl) ?_;refine seq_one ?_;refine ze1 0 rfl rfl rfl hF rfl rfl ?_;clear hF;refine fun a hF => ?_;refine seq_ck [1] [] hF fun C hC => ?_;clear hF;refine za rfl rfl rfl ?_;refine hC _ (fun a hF => ?_);clear hC C;refine seq_end ?_;replace hF := hF.kp [1] rfl;refine hK _ _ ?_;clear hK;(try clear K)
  have HB := Lib.hid (Joins.below_alloc1 w (.cells #[.int .i64 b.x, .int .i64 b.y, .int .i64 b.x2, .int .i64 b.y2] 46))
  have HX : Hid (BoxIn (w.alloc (.cells #[.int .i64 b.x, .int .i64 b.y, .int .i64 b.x2, .int .i64 b.y2] 46)) w.heap.size b) := World.alloc_heap_new w _
  generalize w.alloc (.cells #[.int .i64 b.x, .int .i64 b.y, .int .i64 b.x2, .int .i64 b.y2] 46) = w1 at *
  obtain ⟨g, hg⟩ : ∃ g, g = w.heap.size := ⟨_, rfl⟩
  rw [← hg] at hF HX
  clear hg
  obtain ⟨c0, c1, c2, c3⟩ := HX.out.cells
  refine wp_seq_k (fun K hK => ?_);refine region_sk [0] [1, 2, 3] hF fun C hC => ?_;clear hF;refine zs1 1 rfl rfl ?_;refine hC _ (fun a hF => ?_);clear hC C;refine seq_one ?_;refine op_call [_] rfl rfl hF rfl (by kernel_rfl) ⟨rfl, trivial⟩ (fun K hK => ?_);clear hF
  refine (box_any w1 b).mono ?_
  rintro e w2 ⟨rfl, hb⟩
  have HB2 : Hid (Below w.heap.size w w2) := HB.out.trans (hb.mono HB.out.size)
  clear hb HB
  generalize boxB b = y at *
  refine hK _ _ (fun a hF => ?_);clear hK K;refine seq_ck [2, 3] [] hF fun C hC => ?_;clear hF;refine zs1 4 rfl rfl ?_;refine za rfl rfl rfl ?_;refine hC _ (fun a hF => ?_);clear hC C;refine seq_end ?_;replace hF := hF.kp [2] rfl;refine hK _ _ ?_;clear hK;(try clear K);refine wp_ret ?_;(try simp only [then_ret, block_ret, goto_ret]);refine ret_fr (fn := Try.f41) (rs := [.tmp 2]) rfl [_] hF ⟨rfl, trivial⟩ ?_
  exact ⟨rfl, HB2.out⟩

set_option maxRecDepth 100000 in
set_option maxHeartbeats 8000000 in
theorem cl_door (w : World) (p : PntR) :
    Calls Try.prog 43 #[.agg #[.int .i64 p.x, .int .i64 p.y]] w fun e w' => e = .returned (.bool (!(coordB p.x && coordB p.y))) ∧ Below w.heap.size w w' := by
  obtain ⟨px, py⟩ := p
  dsimp only
  refine enter_fr (N := 10) [.agg #[.int .i64 px, .int .i64 py]] (Try.func43) rfl Try.ntmps43 (by rfl) (fun a hF => ?_);replace hF := hF.kp [0] rfl;refine wp_seq_k (fun K hK => ?_);refine region_seq (l := [0, 1]) (by kernel_rfl) ?_;refine seq_one ?_;refine ze1 0 rfl rfl rfl hF rfl rfl ?_;clear hF;refine fun a hF => ?_;refine seq_ck [1] [] hF fun C hC => ?_;clear hF;refine za rfl rfl rfl ?_;refine hC _ (fun a hF => ?_);clear hC C;refine seq_end ?_;replace hF := hF.kp [1] rfl;refine hK _ _ ?_;clear hK;(try clear K)
  have HB := Lib.hid (Joins.below_alloc1 w (.cells #[.int .i64 px, .int .i64 py] 23))
  have HX : Hid ((w.alloc (.cells #[.int .i64 px, .int .i64 py] 23)).heap[w.heap.size]? = some (.cells #[.int .i64 px, .int .i64 py] 23 (0, 0))) := World.alloc_heap_new w _
  generalize w.alloc (.cells #[.int .i64 px, .int .i64 py] 23) = w1 at *
  obtain ⟨g, hg⟩ : ∃ g, g = w.heap.size := ⟨_, rfl⟩
  rw [← hg] at hF HX
  clear hg
  have c0 : w1.cell? ⟨g, 0, none⟩ = some (.int .i64 px) := boxed_cell (j := 0) HX.out rfl
  have c1 : w1.cell? ⟨g, 1, none⟩ = some (.int .i64 py) := boxed_cell (j := 1) HX.out rfl
  refine wp_seq_k (fun K hK => ?_);refine region_sk [0, 1, 2, 3] [4, 5, 6, 7] hF fun C hC => ?_;clear hF;refine zs1 1 rfl rfl ?_;refine zs1 3 rfl rfl ?_;refine zs1 1 rfl rfl ?_;refine zs1 5 rfl rfl ?_;refine hC _ (fun a hF => ?_);clear hC C;refine seq_one ?_;refine ze2 4 6 rfl rfl rfl hF rfl rfl rfl ?_;clear hF;refine fun a hF => ?_
  have HR := Lib.hid (recs_alloc IntE w1 3 [px, py] #[.int .i64 px, .int .i64 py] rfl)
  have HB2 := Lib.hid (Joins.below_alloc1 w1 (.cells #[.int .i64 px, .int .i64 py] 3))
  have HC := Lib.hid (coords_any _ _ _ 2 _ HR.out (by simp))
  generalize w1.alloc (.cells #[.int .i64 px, .int .i64 py] 3) = w2 at *
  refine seq_one ?_;refine op_call [_] rfl rfl hF rfl (by kernel_rfl) ⟨rfl, trivial⟩ (fun K hK => ?_);clear hF
  refine HC.out.mono ?_
  rintro e w3 ⟨rfl, hb3⟩
  have HB3 : Hid (Below w.heap.size w w3) := HB.out.trans ((HB2.out.trans (hb3.mono HB2.out.size)).mono HB.out.size)
  have HE : Hid ([px, py].all coordB = (coordB px && coordB py)) := by simp [Hid]
  generalize [px, py].all coordB = y at *
  clear c0 c1 HB HB2 HR HC hb3
  refine hK _ _ (fun a hF => ?_);clear hK K;refine seq_ck [6, 7] [] hF fun C hC => ?_;clear hF;refine zs1 8 rfl rfl ?_;refine za rfl rfl rfl ?_;refine hC _ (fun a hF => ?_);clear hC C;refine seq_end ?_;replace hF := hF.kp [2] rfl;refine hK _ _ ?_;clear hK;(try clear K);refine wp_ret ?_;(try simp only [then_ret, block_ret, goto_ret]);refine ret_fr (fn := Try.f43) (rs := [.tmp 2]) rfl [_] hF ⟨rfl, trivial⟩ ?_
  exact ⟨by rw [← HE.out]; rfl, HB3.out⟩

set_option maxRecDepth 100000 in
set_option maxHeartbeats 8000000 in
theorem cl_block (w : World) (x : BlkR) (ga gi : Nat) (ra : Option Addr) (n c i : Nat) (l : List BlkR) (hl : Recs BlkE w ra n l) (hi : i < l.length) (h1 : w.cell? ⟨ga, 0, none⟩ = some (.slice ra n c)) (h2 : w.cell? ⟨gi, 0, none⟩ = some (.int .i64 i)) :
    Calls Try.prog 45 #[.agg #[.string (bs x.name), .slice x.ra x.rn x.rc, .int .i64 x.at'], .pointer (some ⟨ga, 0, none⟩), .pointer (some ⟨gi, 0, none⟩)] w fun e w' => e = .returned (.bool (decide (x.name = l[i].name))) ∧ Below w.heap.size w w' := by
  have hb := bs_beq x.name l[i].name
  have HL := Lib.hid hl
  obtain rfl : l.length = n := hl.1
  have hii : (i : Int) < l.length := by omega
  clear hl
  refine enter_fr (N := 13) [.agg #[.string (bs x.name), .slice x.ra x.rn x.rc, .int .i64 x.at'], .pointer (some ⟨ga, 0, none⟩), .pointer (some ⟨gi, 0, none⟩)] (Try.func45) rfl Try.ntmps45 (by rfl) (fun a hF => ?_);replace hF := hF.kp [0, 1, 2] rfl;refine wp_seq_k (fun K hK => ?_);refine region_seq (l := [0, 1]) (by kernel_rfl) ?_;refine seq_one ?_;refine ze1 0 rfl rfl rfl hF rfl rfl ?_;clear hF;refine fun a hF => ?_;refine seq_ck [1] [] hF fun C hC => ?_;clear hF;refine za rfl rfl rfl ?_;refine hC _ (fun a hF => ?_);clear hC C;refine seq_end ?_;replace hF := hF.kp [1, 2, 3] rfl;refine hK _ _ ?_;clear hK;(try clear K)
  have HB := Lib.hid (Joins.below_alloc1 w (.cells #[.string (bs x.name), .slice x.ra x.rn x.rc, .int .i64 x.at'] 57))
  have HX : Hid ((w.alloc (.cells #[.string (bs x.name), .slice x.ra x.rn x.rc, .int .i64 x.at'] 57)).heap[w.heap.size]? = some (.cells #[.string (bs x.name), .slice x.ra x.rn x.rc, .int .i64 x.at'] 57 (0, 0))) := World.alloc_heap_new w _
  have d1 := Below.cell_of HB.out h1
  have d2 := Below.cell_of HB.out h2
  obtain ⟨b, o, rfl, e0, e1, e2⟩ := blk_at (HL.out.below HB.out) i hi hi
  clear h1 h2 HL
  generalize w.alloc (.cells #[.string (bs x.name), .slice x.ra x.rn x.rc, .int .i64 x.at'] 57) = w1 at *
  generalize w.heap.size = g at *
  have c0 : w1.drew.cell? ⟨g, 0, none⟩ = some (.string (bs x.name)) := boxed_cell (j := 0) HX.out rfl
  have f1 : w1.drew.cell? ⟨ga, 0, none⟩ = some (.slice (some ⟨b, o, none⟩) l.length c) := d1
  have f2 : w1.drew.cell? ⟨gi, 0, none⟩ = some (.int .i64 i) := d2
  have g0 : w1.drew.cell? ⟨b, o + i * 3, none⟩ = some (.string (bs l[i].name)) := e0
  clear d1 d2 e0 e1 e2
  generalize l[i].name = nm at *
  refine wp_seq_k (fun K hK => ?_);refine region_any (by kernel_rfl) ?_;refine any_chain (fuel := 0) [(0, false), (1, true), (2, true), (3, true), (4, false), (5, false), (6, true), (7, false), (8, false)] [] rfl (by kernel_rfl) (by kernel_rfl) hF (fun _ _ d _ _ h => by cases d <;> exact h) (fun C hC => ?_);clear hF;refine zy1 3 rfl rfl ?_;refine zs1 5 rfl rfl ?_;refine zs1 1 rfl rfl ?_;refine zs1 2 rfl rfl ?_;refine zy2 7 8 rfl rfl rfl ?_;refine zy1 9 rfl rfl ?_;refine zs1 10 rfl rfl ?_;refine zy2 6 11 rfl rfl rfl ?_;refine za rfl rfl rfl ?_;refine hC _ (fun a hF => ?_);clear hC C;refine any_end (by kernel_rfl) ?_;replace hF := hF.kp [4] rfl;refine hK _ _ ?_;clear hK;(try clear K);refine wp_ret ?_;(try simp only [then_ret, block_ret, goto_ret]);refine ret_fr (fn := Try.f45) (rs := [.tmp 4]) rfl [_] hF ⟨rfl, trivial⟩ ?_
  exact ⟨rfl, below_d HB.out⟩

end Go.Proofs.Ytmcdhggnpfhlmaa