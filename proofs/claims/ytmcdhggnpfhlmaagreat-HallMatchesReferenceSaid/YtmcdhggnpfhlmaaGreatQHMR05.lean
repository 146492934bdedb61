/- hall: which aisles are reached; hall: Reached, whole; hall: the chapter's examples: plain. -/
import Derived.Test.YtmcdhggnpfhlmaaGreatQHMR04

set_option linter.unusedVariables false
set_option linter.unusedSimpArgs false
namespace Go.Proofs.YtmcdhggnpfhlmaaGreat
open Go.RowKit Go.IntWalk
set_option linter.unusedSimpArgs false
set_option linter.unusedVariables false

/-- A rectangle in a block of its own. -/
def BoxIn (w : World) (g : Nat) (b : BoxR) : Prop := w.heap[g]? = some (.cells #[.int .i64 b.x, .int .i64 b.y, .int .i64 b.x2, .int .i64 b.y2] 59 (0, 0))
theorem BoxIn.cells {w : World} {g : Nat} {b : BoxR} (h : BoxIn w g b) : w.cell? ⟨g, 0, none⟩ = some (.int .i64 b.x) ∧ w.cell? ⟨g, 1, none⟩ = some (.int .i64 b.y) ∧ w.cell? ⟨g, 2, none⟩ = some (.int .i64 b.x2) ∧ w.cell? ⟨g, 3, none⟩ = some (.int .i64 b.y2) :=
 ⟨boxed_cell (j := 0) h rfl, boxed_cell (j := 1) h rfl, boxed_cell (j := 2) h rfl, boxed_cell (j := 3) h rfl⟩
theorem BoxIn.down {w w' : World} {g : Nat} {b : BoxR} (h : BoxIn w g b) (hb : Below w.heap.size w w') : BoxIn w' g b := (hb.block g (lt_of_block h)).trans h

set_option maxRecDepth 100000 in
set_option maxHeartbeats 8000000 in
theorem reached2_any (w : World) (p : PntR) (gb : Nat) (b : BoxR) (h : BoxIn w gb b) :
  Calls Tryz.prog 31 #[.agg #[.int .i64 p.x, .int .i64 p.y], .pointer (some ⟨gb, 0, none⟩)] w fun e w' => e = .returned (.bool (insideB b p.x p.y)) ∧ Below w.heap.size w w' := by
 have HX := Lib.hid h
 clear h
 obtain ⟨px, py⟩ := p
 dsimp only
 refine enter_fr (N := 10) [.agg #[.int .i64 px, .int .i64 py], .pointer (some ⟨gb, 0, none⟩)] (Tryz.func31) rfl Tryz.ntmps31 (by rfl) (fun a hF => ?_);replace hF := hF.kp [0, 1] rfl;refine wp_seq_k (fun K hK => ?_);refine region_seq (l := [0, 1]) (by kernel_rfl) ?_;refine seq_one ?_;revert hF;refine qe1 fun a hF => ?_;revert hF;refine zre 1 [2] [1, 2] fun a hF => ?_;refine hK _ _ ?_;clear hK
 have HB1 := Lib.hid (Joins.below_alloc1 w (.cells #[.int .i64 px, .int .i64 py] 23))
 have hN : (w.alloc (.cells #[.int .i64 px, .int .i64 py] 23)).heap[w.heap.size]? = some (.cells #[.int .i64 px, .int .i64 py] 23 (0, 0)) := World.alloc_heap_new w _
 have HX1 := Lib.hid (HX.out.down HB1.out)
 clear HX
 generalize w.alloc (.cells #[.int .i64 px, .int .i64 py] 23) = w1 at *
 generalize w.heap.size = g at *
 have c0 := cell_of_row (j := 0) _ _ _ _ _ hN
 have c1 := cell_of_row (j := 1) _ _ _ _ _ hN
 have hgl : g < w1.heap.size := cell_lt c0
 clear hN
 obtain ⟨d0, d1, d2, d3⟩ := HX1.out.cells
 refine wp_seq_k (fun K hK => ?_);revert hF;refine zrp [4, 4, 4, 4, 4] [5, 6] fun a hF => ?_;revert hF;refine zos fun K hK => ?_
 refine (inside_any w1 b px py).mono ?_
 rintro e w3 ⟨rfl, hb3⟩
 refine hK _ _ (fun a hF => ?_);clear hK K;revert hF;refine zre 6 [2] [3] fun a hF => ?_;refine hK _ _ ?_;clear hK;refine wp_ret ?_;(try simp only [then_ret, block_ret, goto_ret]);revert hF;refine zq ?_
 exact ⟨rfl, HB1.out.trans (hb3.mono (by omega))⟩

/-- w' is w but for the blocks of S, and new ones. -/
structure Upd (S : Nat → Prop) (w w' : World) : Prop where
 os : w'.os = w.os
 tape : w'.tape = w.tape
 output : w'.output = w.output
 size : w.heap.size ≤ w'.heap.size
 block : ∀ i, i < w.heap.size → ¬ S i → w'.heap[i]? = w.heap[i]?

theorem Upd.of_below {S : Nat → Prop} {w w' : World} (h : Below w.heap.size w w') : Upd S w w' := ⟨h.os, h.tape, h.output, h.size, fun i hi _ => h.block i hi⟩
theorem Upd.refl (S : Nat → Prop) (w : World) : Upd S w w := ⟨rfl, rfl, rfl, Nat.le_refl _, fun _ _ _ => rfl⟩
theorem Upd.trans {S : Nat → Prop} {a b c : World} (h : Upd S a b) (k : Upd S b c) : Upd S a c :=
 ⟨k.os.trans h.os, k.tape.trans h.tape, k.output.trans h.output, Nat.le_trans h.size k.size, fun i hi hS => (k.block i (Nat.lt_of_lt_of_le hi h.size) hS).trans (h.block i hi hS)⟩
theorem Upd.wide {S T : Nat → Prop} {a b : World} (h : Upd S a b) (hs : ∀ i, S i → T i) : Upd T a b :=
 ⟨h.os, h.tape, h.output, h.size, fun i hi hT => h.block i hi (fun e => hT (hs i e))⟩
theorem Upd.below {S : Nat → Prop} {B : Nat} {w0 w w' : World} (hb : Below B w0 w) (hB : B ≤ w.heap.size) (h : Upd S w w') (hs : ∀ i, S i → B ≤ i) : Below B w0 w' :=
 hb.trans ⟨h.os, h.tape, h.output, h.size, fun i hi => h.block i (Nat.lt_of_lt_of_le hi hB) (fun hS => by have := hs i hS; omega)⟩
theorem Upd.setCell {S : Nat → Prop} (w : World) (g i : Nat) (v : Value) (h : S g) : Upd S w (w.setCell ⟨g, i, none⟩ v) :=
 ⟨rfl, rfl, rfl, by simp [World.setCell], fun k _ hne => Below.heap_setCell _ _ _ _ (fun e => hne (by rw [e]; exact h))⟩
/-- A block of cells of another type is another block. -/
theorem type_ne {w : World} {i j : Nat} {A B : Array Value} {T U : TypeId} {x y : Nat × Nat} (h1 : w.heap[i]? = some (.cells A T x)) (h2 : w.heap[j]? = some (.cells B U y)) (hT : T ≠ U) : i ≠ j := by
 rintro rfl
 rw [h1] at h2
 simp only [Option.some.injEq, Obj.cells.injEq] at h2
 exact hT h2.2.1

/-- A level in a block of its own. -/
def LevIn (w : World) (g : Nat) (l : LevR) : Prop := w.heap[g]? = some (.cells #[.string (Go.Proofs.YtmcdhggnpfhlmaaGreat.bs l.name), .int .i64 l.height, .slice l.ba l.bn l.bc, .slice l.aa l.an l.ac, .slice l.sa l.sn l.sc, .slice l.pa l.pn l.pc, .slice l.da l.dn l.dc, .int .i64 l.at'] 32 (0, 0))

/-- What enter works in. -/
structure ReEnv (w0 : World) (l : LevR) (gl go ge gb : Nat) (w : World) (D : List Bool) : Prop where
 below : Below w0.heap.size w0 w
 lev : LevIn w gl l
 out : w.heap[go]? = some (.cells #[.slice (some ⟨gb, 0, none⟩) l.sn l.sn] 39 (0, 0))
 ent : w.heap[ge]? = some (.cells #[.func (.func 28) #[] #[.pointer (some ⟨go, 0, none⟩), .pointer (some ⟨gl, 0, none⟩), .pointer (some ⟨ge, 0, none⟩)]] 66 (0, 0))
 row : BoolRow w gb 4 D
 len : D.length = l.sn
 base : w0.heap.size ≤ gb

theorem ReEnv.next {w0 w w' : World} {l : LevR} {gl go ge gb : Nat} {D D' : List Bool} (h : ReEnv w0 l gl go ge gb w D) (hu : Upd (fun b => b = gb) w w') (hr : BoolRow w' gb 4 D') (hl : D'.length = l.sn) : ReEnv w0 l gl go ge gb w' D' := by
 obtain ⟨arr, e, _, _⟩ := h.row
 have h1 : gl ≠ gb := type_ne h.lev e (by decide)
 have h2 : go ≠ gb := type_ne h.out e (by decide)
 have h3 : ge ≠ gb := type_ne h.ent e (by decide)
 exact ⟨Upd.below h.below h.below.size hu (fun i hi => by rw [hi]; exact h.base), (hu.block gl (lt_of_block h.lev) h1).trans h.lev, (hu.block go (lt_of_block h.out) h2).trans h.out, (hu.block ge (lt_of_block h.ent) h3).trans h.ent, hr, hl, h.base⟩

theorem ReEnv.down {w0 w w' : World} {l : LevR} {gl go ge gb : Nat} {D : List Bool} (h : ReEnv w0 l gl go ge gb w D) (hb : Below w.heap.size w w') : ReEnv w0 l gl go ge gb w' D :=
 h.next (Upd.of_below hb) (h.row.of_heap (hb.block gb h.row.lt)) h.len

/-! ### The search, plain -/
def SndR (A : List BoxR) (P : List PntR) (D : List Bool) : Prop := ∀ j, bx D j = true → Rch A P j
def ClsR (A : List BoxR) (D : List Bool) (j : Nat) : Prop := ∀ k (hk : k < A.length) (hj : j < A.length), meetB A[j] A[k] = true → bx D k = true
structure EPost (A : List BoxR) (P : List PntR) (i : Nat) (D D' : List Bool) : Prop where
 snd : SndR A P D'
 mono : ∀ j, bx D j = true → bx D' j = true
 hit : bx D' i = true
 cls : ∀ j, bx D' j = true → bx D j = true ∨ ClsR A D' j
structure EInv (A : List BoxR) (P : List PntR) (i : Nat) (D : List Bool) (k : Nat) (D' : List Bool) : Prop where
 snd : SndR A P D'
 mono : ∀ j, bx D j = true → bx D' j = true
 hit : bx D' i = true
 cls : ∀ j, bx D' j = true → bx D j = true ∨ j = i ∨ ClsR A D' j
 done : ∀ k' (hk : k' < A.length) (hi : i < A.length), k' < k → meetB A[i] A[k'] = true → bx D' k' = true

theorem ClsR.mono {A : List BoxR} {D D' : List Bool} {j : Nat} (h : ClsR A D j) (hm : ∀ j, bx D j = true → bx D' j = true) : ClsR A D' j := fun k hk hj e => hm k (h k hk hj e)

theorem einv_start {A : List BoxR} {P : List PntR} {i : Nat} {D : List Bool} (hs : SndR A P D) (hi : i < D.length) (hr : Rch A P i) : EInv A P i D 0 (D.set i true) :=
 ⟨fun j h => by
  rw [bx_set _ _ _ _ hi] at h
  by_cases e : i = j
  ·
   subst e; exact hr
  ·
   rw [if_neg e] at h; exact hs j h,
 fun j h => by
  rw [bx_set _ _ _ _ hi]
  by_cases e : i = j
  ·
   rw [if_pos e]
  ·
   rw [if_neg e]; exact h,
 by rw [bx_set _ _ _ _ hi, if_pos rfl],
 fun j h => by
  rw [bx_set _ _ _ _ hi] at h
  by_cases e : i = j
  ·
   exact Or.inr (Or.inl e.symm)
  ·
   rw [if_neg e] at h; exact Or.inl h,
 fun k' _ _ h => absurd h (Nat.not_lt_zero _)⟩
theorem einv_skip {A : List BoxR} {P : List PntR} {i k : Nat} {D D' : List Bool} (h : EInv A P i D k D') (hk : k < A.length) (hi : i < A.length) (hm : meetB A[i] A[k] = false) : EInv A P i D (k + 1) D' :=
 ⟨h.snd, h.mono, h.hit, h.cls, fun k' hk' hi' hlt e => by
  by_cases e2 : k' = k
  ·
   subst e2; rw [hm] at e; cases e
  ·
   exact h.done k' hk' hi' (by omega) e⟩
theorem einv_take {A : List BoxR} {P : List PntR} {i k : Nat} {D D' D2 : List Bool} (h : EInv A P i D k D') (hp : EPost A P k D' D2) : EInv A P i D (k + 1) D2 :=
 ⟨hp.snd, fun j hj => hp.mono j (h.mono j hj), hp.mono i h.hit,
 fun j hj => by
  rcases hp.cls j hj with h1 | h1
  ·
   rcases h.cls j h1 with h2 | h2 | h2
   ·
    exact Or.inl h2
   ·
    exact Or.inr (Or.inl h2)
   ·
    exact Or.inr (Or.inr (h2.mono hp.mono))
  ·
   exact Or.inr (Or.inr h1),
 fun k' hk' hi' hlt e => by
  by_cases e2 : k' = k
  ·
   subst e2; exact hp.hit
  ·
   exact hp.mono k' (h.done k' hk' hi' (by omega) e)⟩
theorem einv_end {A : List BoxR} {P : List PntR} {i : Nat} {D D' : List Bool} (h : EInv A P i D A.length D') : EPost A P i D D' :=
 ⟨h.snd, h.mono, h.hit, fun j hj => by
  rcases h.cls j hj with h1 | h1 | h1
  ·
   exact Or.inl h1
  ·
   subst h1
   exact Or.inr fun k hk hi e => h.done k hk hi hk e
  ·
   exact Or.inr h1⟩

/-- How many are not set. -/
def cntF (D : List Bool) : Nat := (D.filter fun b => !b).length
theorem cnt_set : ∀ {D : List Bool} {i : Nat}, i < D.length → bx D i = false → cntF (D.set i true) < cntF D
 | [], i, h, _ => absurd h (Nat.not_lt_zero _)
 | b :: D, 0, _, hb => by
  have : b = false := hb
  subst this
  simp [cntF]
 | b :: D, i + 1, h, hb => by
  have ih := cnt_set (D := D) (i := i) (by simpa using h) (by simpa [bx] using hb)
  unfold cntF at *
  cases b <;> simp <;> omega
theorem cnt_mono : ∀ {D D' : List Bool}, D.length = D'.length → (∀ j, bx D j = true → bx D' j = true) → cntF D' ≤ cntF D
 | [], [], _, _ => Nat.le_refl _
 | [], _ :: _, h, _ => by cases h
 | _ :: _, [], h, _ => by cases h
 | b :: D, c :: D', h, hm => by
  have ih := cnt_mono (D := D) (D' := D') (by simpa using h) (fun j hj => hm (j + 1) hj)
  have h0 : b = true → c = true := fun e => hm 0 e
  unfold cntF at *
  cases b <;> cases c <;> simp at h0 ⊢ <;> omega

set_option maxRecDepth 100000 in
set_option maxHeartbeats 8000000 in
theorem enter_any (w0 : World) (l : LevR) (gl go ge gb : Nat) (HA : Recs BoxE w0 l.sa l.sn l.aisles) (hsn : l.sn ≤ 4000) :
  ∀ (f : Nat) (w : World) (D : List Bool) (i : Nat), cntF D ≤ f → ReEnv w0 l gl go ge gb w D → i < l.aisles.length → SndR l.aisles l.doors D → Rch l.aisles l.doors i →
   Calls Tryz.prog 28 #[.int .i64 i, .pointer (some ⟨go, 0, none⟩), .pointer (some ⟨gl, 0, none⟩), .pointer (some ⟨ge, 0, none⟩)] w fun e w' => e = .returned (.tuple #[]) ∧ ∃ D', ReEnv w0 l gl go ge gb w' D' ∧ Upd (fun b => b = gb) w w' ∧ EPost l.aisles l.doors i D D' := by
 have HAA := Lib.hid HA
 have hsl : l.aisles.length = l.sn := HA.1
 clear HA
 intro f
 induction f using Nat.strongRecOn with
 | _ f ih =>
 intro w D i hf HE hi hS hR
 have IH := Lib.hid ih
 have HEw := Lib.hid HE
 have HS := Lib.hid hS
 have HR := Lib.hid hR
 have HSL := Lib.hid hsl
 have hin : i < l.sn := by omega
 have hid : i < D.length := by rw [HE.len]; exact hin
 have hii : (i : Int) < l.sn := by omega
 have c0 : w.cell? ⟨go, 0, none⟩ = some (.slice (some ⟨gb, 0, none⟩) l.sn l.sn) := boxed_cell (j := 0) HE.out rfl
 have c1 := HE.row.cell i hid
 clear ih HE hS hR hsl
 refine enter_fr (N := 33) [.int .i64 i, .pointer (some ⟨go, 0, none⟩), .pointer (some ⟨gl, 0, none⟩), .pointer (some ⟨ge, 0, none⟩)] (Tryz.func28) rfl Tryz.ntmps28 (by rfl) (fun a hF => ?_);replace hF := hF.kp [0, 1, 2, 3] rfl;refine wp_seq_k (fun KA hKA => ?_)
 have HD : Hid (∀ b, bx D i = b → bx D i = b) := fun _ h => h
 obtain ⟨b, hb⟩ : ∃ b, bx D i = b := ⟨_, rfl⟩
 have HBI := Lib.hid hb
 rw [hb] at c1
 clear hb HD
 cases b
 rotate_left
 ·
  revert hF;refine zrs [4, 1, 5, 4] [0, 1, 2, 3, 10] fun a hF => ?_
  refine cond_yes hF rfl ?_
  refine wp_ret ?_
  try simp only [then_ret, block_ret, goto_ret]
  refine ret_fr (fn := Tryz.f28) (rs := []) rfl [] hF trivial ?_
  exact ⟨rfl, D, HEw.out, Upd.refl _ _, ⟨HS.out, fun _ h => h, HBI.out, fun _ h => Or.inl h⟩⟩
 revert hF;refine zrs [4, 1, 5, 4] [0, 1, 2, 3, 10] fun a hF => ?_
 refine cond_no hF rfl ?_
 refine wp_skip ?_
 refine hKA _ _ ?_;clear hKA;replace hF := hF.kp [0, 1, 2, 3] rfl;refine wp_seq_k (fun K hK => ?_)
 have c2 := HEw.out.row.free i
 revert hF;refine zrp [4, 1, 5] [3] fun a hF => ?_;refine seq_one ?_;revert hF;refine qu1 fun a hF => ?_;refine seq_end ?_;replace hF := hF.kp [0, 2, 3] rfl;refine hK _ _ ?_;clear hK
 have HU := Lib.hid (Upd.setCell (S := fun b => b = gb) w gb i (.bool true) rfl)
 have HE1 := Lib.hid (HEw.out.next HU.out (HEw.out.row.set i hid true) (by rw [List.length_set]; exact HEw.out.len))
 have HI := Lib.hid (einv_start HS.out hid HR.out)
 have HCT := Lib.hid (cnt_set hid HBI.out)
 have HDL := Lib.hid (show (D.set i true).length = D.length from List.length_set)
 clear c0 c1 c2 HBI
 generalize w.setCell ⟨gb, i, none⟩ (.bool true) = w1 at *
 generalize D.set i true = D1 at *
 have c4 : w1.cell? ⟨gl, 4, none⟩ = some (.slice l.sa l.sn l.sc) := boxed_cell (j := 4) HE1.out.lev rfl
 revert hF;refine zrs [4, 4, 4, 1] [0, 2, 3, 15, 16, 17] fun a hF => ?_
 refine wp_block ?_
 refine loop_fr (fun n a' w' => ∃ (k : Nat) (D2 : List Bool), k + n = l.sn ∧ FrF 33 [] [(0, .int .i64 i), (2, .pointer (some ⟨gl, 0, none⟩)), (3, .pointer (some ⟨ge, 0, none⟩)), (15, .slice l.sa l.sn l.sc), (16, .int .i64 l.sn), (17, .int .i64 k)] a' ∧ Hid (ReEnv w0 l gl go ge gb w' D2) ∧ Hid (Upd (fun b => b = gb) w w') ∧ Hid (EInv l.aisles l.doors i D k D2) ∧ Hid (cntF D2 < f)) l.sn ⟨0, D1, by omega, hF, HE1, HU, HI, Nat.lt_of_lt_of_le HCT.out hf⟩ ?_
 clear hF HE1 HU HI HCT HDL c4
 rintro rk a wr ⟨k, D2, hkr, hF, HE2, HU2, HI2, HC2⟩ KB hKB
 by_cases hlt : k < l.sn
 rotate_left
 ·
  revert hF;refine zrs [5] [0, 2, 3, 15, 16, 17, 18] fun a hF => ?_;refine wp_seq_k (fun K hK => ?_)
  refine cond_no hF rfl ?_
  refine wp_exit ?_
  try simp only [then_exit, block_exit, ↓reduceIte]
  refine end_fr (fn := Tryz.f28) (rs := []) rfl [] hF trivial ?_
  have hke : k = l.aisles.length := by rw [HSL.out]; omega
  exact ⟨rfl, D2, HE2.out, HU2.out, by have := HI2.out; rw [hke] at this; exact einv_end this⟩
 revert hF;refine zrs [5] [0, 2, 3, 15, 16, 17, 18] fun a hF => ?_;refine wp_seq_k (fun K hK => ?_)
 refine cond_yes hF rfl ?_
 refine wp_skip ?_
 refine hK _ _ ?_;clear hK;replace hF := hF.kp [0, 2, 3, 15, 16, 17] rfl
 have hkl : k < l.aisles.length := by rw [HSL.out]; exact hlt
 have hki : (k : Int) < l.sn := by omega
 obtain ⟨b, o, hsa, d0, d1, d2, d3⟩ := box_at (HAA.out.below HE2.out.below) k hlt hkl
 refine seq_cut (fun a' w' => ∃ D2, FrF 33 [] [(0, .int .i64 i), (2, .pointer (some ⟨gl, 0, none⟩)), (3, .pointer (some ⟨ge, 0, none⟩)), (15, .slice l.sa l.sn l.sc), (16, .int .i64 l.sn), (17, .int .i64 k)] a' ∧ Hid (ReEnv w0 l gl go ge gb w' D2) ∧ Hid (Upd (fun b => b = gb) w w') ∧ Hid (EInv l.aisles l.doors i D (k + 1) D2) ∧ Hid (cntF D2 < f)) (fun KC hKC => ?_) ?_
 rotate_left
 ·
  clear hF HE2 HU2 HI2 HC2 d0 d1 d2 d3 hsa
  rintro a w' ⟨D2, hF, HE2, HU2, HI2, HC2⟩
  have hws : IntKind.i64.wrap ((k : Int) + 1) = ((k + 1 : Nat) : Int) := wrap_succ (by omega)
  revert hF;refine zrg [4, 1] [0, 2, 3, 15, 16, 17] fun a hF => ?_
  exact hKB (l.sn - (k + 1)) _ _ (by omega) ⟨k + 1, D2, by omega, hF, HE2, HU2, HI2, HC2⟩
 clear hKB hkr
 refine wp_block ?_
 refine wp_seq_k (fun K hK => ?_);revert hF;refine zrp [1, 5, 4] [3, 4, 5] fun a hF => ?_;refine seq_one ?_;revert hF;refine qe0 fun a hF => ?_;revert hF;refine zrc 4 [2] [5] fun a hF => ?_;refine seq_one ?_;revert hF;refine qu2 fun a hF => ?_;refine seq_end ?_;replace hF := hF.kp [0, 2, 3, 5, 6, 15, 16, 17] rfl;refine hK _ _ ?_;clear hK
 have HX : Hid (BoxIn (wr.alloc (.cells #[.int .i64 l.aisles[k].x, .int .i64 l.aisles[k].y, .int .i64 l.aisles[k].x2, .int .i64 l.aisles[k].y2] 59)) wr.heap.size l.aisles[k]) := World.alloc_heap_new wr _
 have HBa := Lib.hid (Joins.below_alloc1 wr (.cells #[.int .i64 l.aisles[k].x, .int .i64 l.aisles[k].y, .int .i64 l.aisles[k].x2, .int .i64 l.aisles[k].y2] 59))
 have HE3 := Lib.hid (HE2.out.down HBa.out)
 have HU3 : Hid (Upd (fun b => b = gb) w (wr.alloc (.cells #[.int .i64 l.aisles[k].x, .int .i64 l.aisles[k].y, .int .i64 l.aisles[k].x2, .int .i64 l.aisles[k].y2] 59))) := HU2.out.trans (Upd.of_below HBa.out)
 clear HE2 HU2 d0 d1 d2 d3 HBa
 generalize wr.alloc (.cells #[.int .i64 l.aisles[k].x, .int .i64 l.aisles[k].y, .int .i64 l.aisles[k].x2, .int .i64 l.aisles[k].y2] 59) = w2 at *
 generalize wr.heap.size = gx at *
 refine wp_seq_k (fun K hK => ?_)
 have e4 : w2.drew.cell? ⟨gl, 4, none⟩ = some (.slice l.sa l.sn l.sc) := boxed_cell (j := 4) HE3.out.lev rfl
 have hil : i < l.aisles.length := hi
 obtain ⟨b', o', hsa', d0, d1, d2, d3⟩ := box_at (HAA.out.below (below_d HE3.out.below)) i hin hil
 obtain ⟨rfl, rfl⟩ : b' = b ∧ o' = o := by rw [hsa] at hsa'; simpa using hsa'.symm
 clear hsa'
 obtain ⟨x0, x1, x2, x3⟩ := BoxIn.cells (w := w2.drew) HX.out
 have HST := Lib.hid (fun h => Rch.step (D := l.doors) k i hkl hil HR.out h)
 have HSK := Lib.hid (fun h => einv_skip HI2.out hkl hil h)
 generalize l.aisles[k] = ak at *
 generalize l.aisles[i] = ai at *
 refine region_any (by kernel_rfl) ?_;revert hF;refine zra (fuel := 1) [9, 52, 65, 106, 148, 180] [6] fun a hF => ?_;refine any_one (n := 6) (fuel := 0) (by kernel_rfl) ?_;revert hF;refine zoc fun K hK => ?_
 refine (meet_any _ ai ak).mono ?_
 rintro e w3 ⟨rfl, hb3⟩
 have HE4 := Lib.hid (HE3.out.down (w' := w3) ((below_d (Below.refl _ _)).trans hb3))
 have HU4 : Hid (Upd (fun b => b = gb) w w3) := HU3.out.trans (Upd.of_below ((below_d (Below.refl _ _)).trans hb3))
 clear HE3 HU3 hb3 d0 d1 d2 d3 x0 x1 x2 x3 e4 HX
 obtain ⟨m, hm⟩ : ∃ m, meetB ai ak = m := ⟨_, rfl⟩
 have HM := Lib.hid hm
 rw [hm]
 clear hm
 cases m
 ·
  refine hK _ _ (fun a hF => ?_);clear hK K;refine any_end (by kernel_rfl) ?_;replace hF := hF.kp [0, 2, 3, 5, 15, 16, 17, 28] rfl;refine hK _ _ ?_;clear hK
  refine cond_no hF rfl ?_
  refine wp_skip ?_
  exact hKC _ _ ⟨D2, hF.sub ⟨rfl, rfl, rfl, rfl, rfl, rfl, trivial⟩, HE4, HU4, HSK.out HM.out, HC2⟩
 refine hK _ _ (fun a hF => ?_);clear hK K;refine any_end (by kernel_rfl) ?_;replace hF := hF.kp [0, 2, 3, 5, 15, 16, 17, 28] rfl;refine hK _ _ ?_;clear hK
 refine cond_yes hF rfl ?_
 have c5 : w3.cell? ⟨ge, 0, none⟩ = some (.func (.func 28) #[] #[.pointer (some ⟨go, 0, none⟩), .pointer (some ⟨gl, 0, none⟩), .pointer (some ⟨ge, 0, none⟩)]) := boxed_cell (j := 0) HE4.out.ent rfl
 revert hF;refine zrp [4, 1] [2] fun a hF => ?_;refine seq_one ?_;refine op_callv [_] _ _ rfl rfl hF rfl rfl (by first | assumption | kernel_rfl) ⟨rfl, trivial⟩ (fun K hK => ?_);clear hF
 refine (IH.out (cntF D2) HC2.out w3 D2 k (Nat.le_refl _) HE4.out hkl HI2.out.snd (HST.out HM.out)).mono ?_
 rintro e w4 ⟨rfl, D3, hE5, hU5, hP⟩
 refine hK _ _ (fun a hF => ?_);clear hK K;refine seq_end ?_;replace hF := hF.kp [0, 2, 3, 15, 16, 17] rfl
 refine hKC _ _ ⟨D3, hF, hE5, HU4.out.trans hU5, einv_take HI2.out hP, Nat.lt_of_le_of_lt (cnt_mono (by rw [HE4.out.len, hE5.len]) hP.mono) HC2.out⟩
end Go.Proofs.YtmcdhggnpfhlmaaGreat

namespace Go.Proofs.YtmcdhggnpfhlmaaGreat
open Go.RowKit Go.IntWalk
set_option linter.unusedSimpArgs false
set_option linter.unusedVariables false

theorem bx_none {n j : Nat} : bx (List.replicate n false) j = false := by
 unfold bx
 rw [List.getD_eq_getElem?_getD]
 by_cases h : j < n
 ·
  simp [h]
 ·
  simp [h]


theorem rch_set {A : List BoxR} {P : List PntR} {D : List Bool} (hc : ∀ j, bx D j = true → ClsR A D j) (hd : ∀ j (hj : j < A.length), doorB P A[j] = true → bx D j = true) : ∀ {j : Nat}, Rch A P j → bx D j = true := by
 intro j h
 induction h with
 | door i hi h => exact hd i hi h
 | step i k hi hk _ hm ih => exact hc k ih i hi hk hm

theorem reach_eq {A : List BoxR} {P : List PntR} {D : List Bool} (hl : D.length = A.length) (hs : SndR A P D) (hc : ∀ j, bx D j = true → ClsR A D j) (hd : ∀ j (hj : j < A.length), doorB P A[j] = true → bx D j = true) : reachS A P = D := by
 unfold reachS
 apply List.ext_getElem
 ·
  simp [hl]
 ·
  intro j h1 h2
  simp only [List.getElem_map, List.getElem_range]
  have e : D[j] = bx D j := by simp [bx, List.getD_eq_getElem?_getD, h2]
  rw [e]
  by_cases h : Rch A P j
  ·
   rw [rch_set hc hd h]; simpa using h
  ·
   cases hb : bx D j
   ·
    simpa using h
   ·
    exact absurd (hs j hb) h

theorem reachS_len (A : List BoxR) (P : List PntR) : (reachS A P).length = A.length := by simp [reachS]

/-- A variable of one cell is set. -/
theorem set_var {w : World} {g : Nat} {T : TypeId} {u v : Value} {x : Nat × Nat} (h : w.heap[g]? = some (.cells #[u] T x)) : (w.setCell ⟨g, 0, none⟩ v).heap[g]? = some (.cells #[v] T x) := by
 simp [World.setCell, Array.getElem?_modify, h]
theorem free_var {w : World} {g o : Nat} {T : TypeId} {arr : Array Value} (h : w.heap[g]? = some (.cells arr T (0, 0))) : w.frozen? ⟨g, o, none⟩ = false := by
 simp only [World.frozen?, h]
 simp


set_option maxRecDepth 100000 in
set_option maxHeartbeats 16000000 in
theorem reached_any (w : World) (l : LevR) (hA : Recs BoxE w l.sa l.sn l.aisles) (hD : Recs PntE w l.da l.dn l.doors) (hsn : l.sn ≤ 4000) (hdn : l.dn ≤ 9223372036854775807) :
  Calls Tryz.prog 8 #[.agg #[.string (bs l.name), .int .i64 l.height, .slice l.ba l.bn l.bc, .slice l.aa l.an l.ac, .slice l.sa l.sn l.sc, .slice l.pa l.pn l.pc, .slice l.da l.dn l.dc, .int .i64 l.at']] w
   fun e w' => (∃ g, e = .returned (.slice (some ⟨g, 0, none⟩) l.sn l.sn) ∧ w.heap.size ≤ g ∧ BoolRow w' g 4 (reachS l.aisles l.doors)) ∧ Below w.heap.size w w' := by
 have HA := Lib.hid hA
 have HD := Lib.hid hD
 have hsl : l.aisles.length = l.sn := hA.1
 have HSL := Lib.hid hsl
 have HDL := Lib.hid hD.1
 clear hA hD hsl
 refine enter_fr (N := 29) [.agg #[.string (bs l.name), .int .i64 l.height, .slice l.ba l.bn l.bc, .slice l.aa l.an l.ac, .slice l.sa l.sn l.sc, .slice l.pa l.pn l.pc, .slice l.da l.dn l.dc, .int .i64 l.at']] (Tryz.func8) rfl Tryz.ntmps8 (by rfl) (fun a hF => ?_);replace hF := hF.kp [0] rfl;refine wp_seq_k (fun K hK => ?_);refine region_seq (l := [0, 1]) (by kernel_rfl) ?_;refine seq_one ?_;revert hF;refine qe1 fun a hF => ?_;revert hF;refine zre 1 [2] [1] fun a hF => ?_;refine hK _ _ ?_;clear hK
 have HL : Hid (LevIn (w.alloc (.cells #[.string (bs l.name), .int .i64 l.height, .slice l.ba l.bn l.bc, .slice l.aa l.an l.ac, .slice l.sa l.sn l.sc, .slice l.pa l.pn l.pc, .slice l.da l.dn l.dc, .int .i64 l.at'] 32)) w.heap.size l) := World.alloc_heap_new w _
 have HB1 := Lib.hid (Joins.below_alloc1 w (.cells #[.string (bs l.name), .int .i64 l.height, .slice l.ba l.bn l.bc, .slice l.aa l.an l.ac, .slice l.sa l.sn l.sc, .slice l.pa l.pn l.pc, .slice l.da l.dn l.dc, .int .i64 l.at'] 32))
 generalize w.alloc (.cells #[.string (bs l.name), .int .i64 l.height, .slice l.ba l.bn l.bc, .slice l.aa l.an l.ac, .slice l.sa l.sn l.sc, .slice l.pa l.pn l.pc, .slice l.da l.dn l.dc, .int .i64 l.at'] 32) = w1 at *
 obtain ⟨gl, hgl⟩ : ∃ gl, gl = w.heap.size := ⟨_, rfl⟩
 have HGL := Lib.hid hgl
 rw [← hgl] at hF HL
 clear hgl
 have hgl1 : gl < w1.heap.size := lt_of_block HL.out
 have c4 : w1.cell? ⟨gl, 4, none⟩ = some (.slice l.sa l.sn l.sc) := boxed_cell (j := 4) HL.out rfl
 obtain ⟨arr, hasz, haz, hmk⟩ := make_bools l.sn hsn
 refine wp_seq_k (fun K hK => ?_);revert hF;refine zrp [4, 4, 4] [3, 4, 5] fun a hF => ?_;refine seq_one ?_;revert hF;refine qe2 fun a hF => ?_
 have HR2 : Hid (BoolRow (w1.alloc (.cells arr 4)) w1.heap.size 4 (List.replicate l.sn false)) := BoolRow.made rfl hasz haz
 have HB2 := Lib.hid (Joins.below_alloc1 w1 (.cells arr 4))
 clear hmk hasz haz c4
 generalize w1.alloc (.cells arr 4) = w2 at *
 obtain ⟨gb, hgb⟩ : ∃ gb, gb = w1.heap.size := ⟨_, rfl⟩
 rw [← hgb] at hF HR2
 have HGB := Lib.hid hgb
 clear hgb
 refine seq_one ?_;revert hF;refine qe0 fun a hF => ?_;refine seq_one ?_;revert hF;refine qu2 fun a hF => ?_;refine hK _ _ ?_;clear hK
 have HO : (w2.alloc (.cells #[.slice (some ⟨gb, 0, none⟩) l.sn l.sn] 39)).heap[w2.heap.size]? = some (.cells #[.slice (some ⟨gb, 0, none⟩) l.sn l.sn] 39 (0, 0)) := World.alloc_heap_new w2 _
 have HO := Lib.hid HO
 have HB3 := Lib.hid (Joins.below_alloc1 w2 (.cells #[.slice (some ⟨gb, 0, none⟩) l.sn l.sn] 39))
 generalize w2.alloc (.cells #[.slice (some ⟨gb, 0, none⟩) l.sn l.sn] 39) = w3 at *
 obtain ⟨go, hgo⟩ : ∃ go, go = w2.heap.size := ⟨_, rfl⟩
 rw [← hgo] at hF HO
 have HGO := Lib.hid hgo
 clear hgo
 refine wp_seq_k (fun K hK => ?_);refine region_seq (l := [0]) (by kernel_rfl) ?_;refine seq_one ?_;revert hF;refine qe0 fun a hF => ?_;refine seq_end ?_;replace hF := hF.kp [1, 3, 4] rfl
 have HN : Hid ((w3.alloc (.cells #[.nilFunc] 66)).heap[w3.heap.size]? = some (.cells #[.nilFunc] 66 (0, 0))) := World.alloc_heap_new w3 _
 have HB4 := Lib.hid (Joins.below_alloc1 w3 (.cells #[.nilFunc] 66))
 generalize w3.alloc (.cells #[.nilFunc] 66) = w4 at *
 obtain ⟨ge, hge⟩ : ∃ ge, ge = w3.heap.size := ⟨_, rfl⟩
 rw [← hge] at hF HN
 have HGE := Lib.hid hge
 clear hge
 refine hK _ _ ?_;clear hK;refine wp_seq_k (fun K hK => ?_)
 have c0 : w4.cell? ⟨ge, 0, none⟩ = some .nilFunc := boxed_cell (j := 0) HN.out rfl
 have c1 := free_var (o := 0) HN.out
 revert hF;refine zrp [6] [1] fun a hF => ?_;refine seq_one ?_;revert hF;refine qu2 fun a hF => ?_;refine seq_end ?_;replace hF := hF.kp [1, 3, 4] rfl;refine hK _ _ ?_;clear hK
 clear c0 c1
 have HU5 := Lib.hid (Upd.setCell (S := fun b => b = ge) w4 ge 0 (.func (.func 28) #[] #[.pointer (some ⟨go, 0, none⟩), .pointer (some ⟨gl, 0, none⟩), .pointer (some ⟨ge, 0, none⟩)]) rfl)
 have HSV := Lib.hid (set_var (v := .func (.func 28) #[] #[.pointer (some ⟨go, 0, none⟩), .pointer (some ⟨gl, 0, none⟩), .pointer (some ⟨ge, 0, none⟩)]) HN.out)
 generalize w4.setCell ⟨ge, 0, none⟩ (.func (.func 28) #[] #[.pointer (some ⟨go, 0, none⟩), .pointer (some ⟨gl, 0, none⟩), .pointer (some ⟨ge, 0, none⟩)]) = w5 at *
 have HE : Hid (ReEnv w l gl go ge gb w5 (List.replicate l.sn false)) := by
  have h34 := HB3.out.trans (HB4.out.mono HB3.out.size)
  have h14 := HB2.out.trans (h34.mono HB2.out.size)
  have h04 := HB1.out.trans (h14.mono HB1.out.size)
  have hl4 : LevIn w4 gl l := (h14.block gl hgl1).trans HL.out
  have ho4 := (HB4.out.block go (lt_of_block HO.out)).trans HO.out
  have hr4 := HR2.out.of_heap (h34.block gb HR2.out.lt)
  obtain ⟨ar, er, er2⟩ := hr4
  refine ⟨Upd.below h04 h04.size HU5.out (fun i hi => ?_), (HU5.out.block gl (lt_of_block hl4) (type_ne hl4 HN.out (by decide))).trans hl4, (HU5.out.block go (lt_of_block ho4) (type_ne ho4 HN.out (by decide))).trans ho4, HSV.out,
   ⟨ar, (HU5.out.block gb (lt_of_block er) (type_ne er HN.out (by decide))).trans er, er2⟩, by simp, by rw [HGB.out]; exact HB1.out.size⟩
  rw [hi, HGE.out]
  have := HB1.out.size
  have := HB2.out.size
  have := HB3.out.size
  omega
 clear HU5 HSV HN HB1 HB2 HB3 HB4 HL HO HR2 HGE HGO HGL hgl1
 refine wp_seq_k (fun KA hKA => ?_)
 have c4 : w5.cell? ⟨gl, 4, none⟩ = some (.slice l.sa l.sn l.sc) := boxed_cell (j := 4) HE.out.lev rfl
 revert hF;refine zrs [4, 4, 4, 1] [1, 3, 4, 13, 14, 15] fun a hF => ?_
 refine wp_block ?_
 refine loop_fr (fun n a' w' => ∃ (i : Nat) (D : List Bool), i + n = l.sn ∧ FrF 29 [] [(1, .pointer (some ⟨gl, 0, none⟩)), (3, .pointer (some ⟨go, 0, none⟩)), (4, .pointer (some ⟨ge, 0, none⟩)), (13, .slice l.sa l.sn l.sc), (14, .int .i64 l.sn), (15, .int .i64 i)] a' ∧ Hid (ReEnv w l gl go ge gb w' D) ∧ Hid (SndR l.aisles l.doors D) ∧ Hid (∀ j, bx D j = true → ClsR l.aisles D j) ∧ Hid (∀ j (hj : j < l.aisles.length), j < i → doorB l.doors l.aisles[j] = true → bx D j = true)) l.sn ⟨0, _, by omega, hF, HE, fun j h => absurd h (by rw [bx_none]; decide), fun j h => absurd h (by rw [bx_none]; decide), fun j hj h => absurd h (Nat.not_lt_zero _)⟩ ?_
 clear hF HE c4
 rintro rk a wr ⟨i, D, hik, hF, HE, HS, HC, HDR⟩ KB hKB
 by_cases hlt : i < l.sn
 rotate_left
 ·
  revert hF;refine zrs [5] [1, 3, 4, 13, 14, 15, 16] fun a hF => ?_;refine wp_seq_k (fun K hK => ?_)
  refine cond_no hF rfl ?_
  refine wp_exit ?_
  refine hKA _ _ ?_;clear hKA
  have c3 : wr.cell? ⟨go, 0, none⟩ = some (.slice (some ⟨gb, 0, none⟩) l.sn l.sn) := boxed_cell (j := 0) HE.out.out rfl
  revert hF;refine zrs [4, 2] [2] fun a hF => ?_;refine wp_ret ?_;(try simp only [then_ret, block_ret, goto_ret]);revert hF;refine zq ?_
  refine ⟨⟨gb, rfl, HE.out.base, ?_⟩, HE.out.below⟩
  rw [reach_eq (by rw [HE.out.len, HSL.out]) HS.out HC.out fun j hj h => HDR.out j hj (by have := HSL.out; omega) h]
  exact HE.out.row
 revert hF;refine zrs [5] [1, 3, 4, 13, 14, 15, 16] fun a hF => ?_;refine wp_seq_k (fun K hK => ?_)
 refine cond_yes hF rfl ?_
 refine wp_skip ?_
 refine hK _ _ ?_;clear hK;replace hF := hF.kp [1, 3, 4, 13, 14, 15] rfl
 clear hKA
 have hil : i < l.aisles.length := by rw [HSL.out]; exact hlt
 have hki : (i : Int) < l.sn := by omega
 obtain ⟨b, o, hsa, d0, d1, d2, d3⟩ := box_at (HA.out.below HE.out.below) i hlt hil
 refine seq_cut (fun a' w' => ∃ D, FrF 29 [] [(1, .pointer (some ⟨gl, 0, none⟩)), (3, .pointer (some ⟨go, 0, none⟩)), (4, .pointer (some ⟨ge, 0, none⟩)), (13, .slice l.sa l.sn l.sc), (14, .int .i64 l.sn), (15, .int .i64 i)] a' ∧ Hid (ReEnv w l gl go ge gb w' D) ∧ Hid (SndR l.aisles l.doors D) ∧ Hid (∀ j, bx D j = true → ClsR l.aisles D j) ∧ Hid (∀ j (hj : j < l.aisles.length), j < i + 1 → doorB l.doors l.aisles[j] = true → bx D j = true)) (fun KC hKC => ?_) ?_
 rotate_left
 ·
  clear hF HE HS HC HDR d0 d1 d2 d3 hsa
  rintro a w' ⟨D, hF, HE, HS, HC, HDR⟩
  have hws : IntKind.i64.wrap ((i : Int) + 1) = ((i + 1 : Nat) : Int) := wrap_succ (by omega)
  revert hF;refine zrg [4, 1] [1, 3, 4, 13, 14, 15] fun a hF => ?_
  exact hKB (l.sn - (i + 1)) _ _ (by omega) ⟨i + 1, D, by omega, hF, HE, HS, HC, HDR⟩
 clear hKB hik
 refine wp_block ?_
 refine wp_seq_k (fun K hK => ?_);revert hF;refine zrp [1, 5, 4] [3, 4, 5] fun a hF => ?_;refine seq_one ?_;revert hF;refine qe0 fun a hF => ?_;revert hF;refine zrc 4 [2] [5] fun a hF => ?_;refine seq_one ?_;revert hF;refine qu2 fun a hF => ?_;refine seq_end ?_;replace hF := hF.kp [1, 3, 4, 5, 6, 13, 14, 15] rfl;refine hK _ _ ?_;clear hK
 have HX : Hid (BoxIn (wr.alloc (.cells #[.int .i64 l.aisles[i].x, .int .i64 l.aisles[i].y, .int .i64 l.aisles[i].x2, .int .i64 l.aisles[i].y2] 59)) wr.heap.size l.aisles[i]) := World.alloc_heap_new wr _
 have HBa := Lib.hid (Joins.below_alloc1 wr (.cells #[.int .i64 l.aisles[i].x, .int .i64 l.aisles[i].y, .int .i64 l.aisles[i].x2, .int .i64 l.aisles[i].y2] 59))
 have HE2 := Lib.hid (HE.out.down HBa.out)
 clear HE d0 d1 d2 d3 HBa
 generalize wr.alloc (.cells #[.int .i64 l.aisles[i].x, .int .i64 l.aisles[i].y, .int .i64 l.aisles[i].x2, .int .i64 l.aisles[i].y2] 59) = w2 at *
 generalize wr.heap.size = gx at *
 have e6 : w2.cell? ⟨gl, 6, none⟩ = some (.slice l.da l.dn l.dc) := boxed_cell (j := 6) HE2.out.lev rfl
 have HRD := Lib.hid (fun h => Rch.door (D := l.doors) i hil h)
 have HDN : Hid (doorB l.doors l.aisles[i] = false → ∀ j (hj : j < l.aisles.length), j < i + 1 → doorB l.doors l.aisles[j] = true → bx D j = true) := fun h j hj hji hd => by
  by_cases e : j = i
  ·
   subst e; rw [h] at hd; cases hd
  ·
   exact HDR.out j hj (by omega) hd
 have HDY : Hid (∀ D2, (∀ j, bx D j = true → bx D2 j = true) → bx D2 i = true → ∀ j (hj : j < l.aisles.length), j < i + 1 → doorB l.doors l.aisles[j] = true → bx D2 j = true) := fun D2 hm h0 j hj hji hd => by
  by_cases e : j = i
  ·
   subst e; exact h0
  ·
   exact hm j (HDR.out j hj (by omega) hd)
 generalize l.aisles[i] = ai at *
 have HCF := Lib.hid (contains_pnt w2 l.da l.dn l.dc l.doors (HD.out.below HE2.out.below) hdn 31 [.pointer (some ⟨gx, 0, none⟩)] (fun p => insideB ai p.x p.y) (by kernel_rfl) (fun wx hb j hj => reached2_any wx l.doors[j] gx ai (HX.out.down hb)))
 have HDB : Hid ((l.doors.any fun p => insideB ai p.x p.y) = doorB l.doors ai) := rfl
 generalize (l.doors.any fun p => insideB ai p.x p.y) = db at *
 refine wp_seq_k (fun K hK => ?_);revert hF;refine zrp [4, 4, 4] [3] fun a hF => ?_;revert hF;refine zos fun K hK => ?_
 refine HCF.out.mono ?_
 rintro e w3 ⟨rfl, hb3⟩
 have HE3 := Lib.hid (HE2.out.down hb3)
 clear HE2 hb3 e6 HCF HX
 cases db
 ·
  refine hK _ _ (fun a hF => ?_);clear hK K;refine seq_end ?_;replace hF := hF.kp [1, 3, 4, 5, 13, 14, 15, 23] rfl;refine hK _ _ ?_;clear hK
  refine cond_no hF rfl ?_
  refine wp_skip ?_
  exact hKC _ _ ⟨D, hF.sub ⟨rfl, rfl, rfl, rfl, rfl, rfl, trivial⟩, HE3, HS, HC, HDN.out HDB.out.symm⟩
 refine hK _ _ (fun a hF => ?_);clear hK K;refine seq_end ?_;replace hF := hF.kp [1, 3, 4, 5, 13, 14, 15, 23] rfl;refine hK _ _ ?_;clear hK
 refine cond_yes hF rfl ?_
 have c5 : w3.cell? ⟨ge, 0, none⟩ = some (.func (.func 28) #[] #[.pointer (some ⟨go, 0, none⟩), .pointer (some ⟨gl, 0, none⟩), .pointer (some ⟨ge, 0, none⟩)]) := boxed_cell (j := 0) HE3.out.ent rfl
 revert hF;refine zrp [4, 1] [2] fun a hF => ?_;refine seq_one ?_;refine op_callv [_] _ _ rfl rfl hF rfl rfl (by first | assumption | kernel_rfl) ⟨rfl, trivial⟩ (fun K hK => ?_);clear hF
 refine (enter_any w l gl go ge gb HA.out hsn _ w3 D i (Nat.le_refl _) HE3.out hil HS.out (HRD.out HDB.out.symm)).mono ?_
 rintro e w4 ⟨rfl, D3, hE5, hU5, hP⟩
 refine hK _ _ (fun a hF => ?_);clear hK K;refine seq_end ?_;replace hF := hF.kp [1, 3, 4, 13, 14, 15] rfl
 refine hKC _ _ ⟨D3, hF, hE5, hP.snd, fun j hj => ?_, HDY.out D3 hP.mono hP.hit⟩
 rcases hP.cls j hj with h | h
 ·
  exact (HC.out j h).mono hP.mono
 ·
  exact h
end Go.Proofs.YtmcdhggnpfhlmaaGreat

namespace Go.Proofs.YtmcdhggnpfhlmaaGreat
open Go.RowKit Go.IntWalk
set_option linter.unusedSimpArgs false
set_option linter.unusedVariables false

def exRow (ma : Option Addr) (mn mc : Nat) (ms : List MarkR) : RowR := ⟨[97], 3, 5, 1, 3, 2, ma, mn, mc, ms, 7⟩
def exRow2 : RowR := ⟨[98], 5, 5, 1, 1, 2, none, 0, 0, [], 9⟩
def exLev (rows : List RowR) (ra : Option Addr) (rn rc : Nat) (g2 g3 : Nat) (da : Option Addr) (dn dc : Nat) (doors : List PntR) : LevR :=
 ⟨[108], 0, some ⟨g2, 0, none⟩, 1, 1, [⟨[98], ra, rn, rc, rows, 0⟩], none, 0, 0, [], some ⟨g3, 0, none⟩, 1, 1, [⟨0, 0, 1, 9⟩], none, 0, 0, [], da, dn, dc, doors, 0⟩
def exHall (l : LevR) (g5 : Nat) : HallR := ⟨[], ⟨0, 0⟩, some ⟨g5, 0, none⟩, 1, 1, [l]⟩

theorem reach_one : reachS [⟨0, 0, 1, 9⟩] [⟨0, 0⟩] = [true] := by
 have h : Rch [⟨0, 0, 1, 9⟩] [⟨0, 0⟩] 0 := .door 0 (by decide) (by decide)
 unfold reachS
 simp [h]
theorem no_rch {A : List BoxR} : ∀ {i : Nat}, Rch A [] i → False := by
 intro i h
 induction h with
 | door i h hd => simp [doorB] at hd
 | step i k hi hk h hm ih => exact ih
theorem reach_off : reachS [⟨0, 0, 1, 9⟩] [] = [false] := by
 have h : ¬ Rch [⟨0, 0, 1, 9⟩] [] 0 := no_rch
 unfold reachS
 simp [h]

theorem build_ok {h : HallR} {l : LevR} {re : List Bool} (hl : h.levels = [l]) (hs : singleS h = []) (hst : (coordB h.stage.x && coordB h.stage.y) = true) (hc : decide (4000 < countS h) = false) (hr : reachS l.aisles l.doors = re) {F : List FaultR} (hf : severalR re l = F) : faultsS h = F := by
 unfold faultsS
 rw [if_neg (fun e => e hs), if_neg (fun e => e hst), if_neg (by simpa using hc), hl]
 show [l].flatMap severalS = F
 have : [l].flatMap severalS = severalS l := by simp
 rw [this]
 unfold severalS
 rw [hr, hf]

section
variable (ma ra : Option Addr) (mn mc rn rc g2 g3 g4 g5 dn dc : Nat) (da : Option Addr)
set_option maxRecDepth 100000
theorem ex_a : buildS (exHall (exLev [exRow ma mn mc []] ra rn rc g2 g3 da dn dc [⟨0, 0⟩]) g5) = ([⟨0, 0, 0, 0, 1, 3, 5, 0, -1⟩, ⟨0, 0, 0, 0, 2, 5, 5, 0, -1⟩, ⟨0, 0, 0, 0, 3, 7, 5, 0, -1⟩], []) := by
 have hp : placesS (exHall (exLev [exRow ma mn mc []] ra rn rc g2 g3 da dn dc [⟨0, 0⟩]) g5) = [⟨0, 0, 0, 0, 1, 3, 5, 0, -1⟩, ⟨0, 0, 0, 0, 2, 5, 5, 0, -1⟩, ⟨0, 0, 0, 0, 3, 7, 5, 0, -1⟩] := by kernel_rfl
 have h := build_ok (h := exHall (exLev [exRow ma mn mc []] ra rn rc g2 g3 da dn dc [⟨0, 0⟩]) g5) rfl (by kernel_rfl) (by kernel_rfl) (by kernel_rfl) reach_one (F := []) (by kernel_rfl)
 unfold buildS
 rw [if_pos h, hp]
theorem ex_b : buildS (exHall (exLev [exRow ma mn mc [⟨1, 2, 0⟩]] ra rn rc g2 g3 da dn dc [⟨0, 0⟩]) g5) = ([⟨0, 0, 0, 0, 1, 3, 5, 0, -1⟩, ⟨0, 0, 0, 0, 3, 7, 5, 0, -1⟩], []) := by
 have hp : placesS (exHall (exLev [exRow ma mn mc [⟨1, 2, 0⟩]] ra rn rc g2 g3 da dn dc [⟨0, 0⟩]) g5) = [⟨0, 0, 0, 0, 1, 3, 5, 0, -1⟩, ⟨0, 0, 0, 0, 3, 7, 5, 0, -1⟩] := by kernel_rfl
 have h := build_ok (h := exHall (exLev [exRow ma mn mc [⟨1, 2, 0⟩]] ra rn rc g2 g3 da dn dc [⟨0, 0⟩]) g5) rfl (by kernel_rfl) (by kernel_rfl) (by kernel_rfl) reach_one (F := []) (by kernel_rfl)
 unfold buildS
 rw [if_pos h, hp]
theorem ex_c : buildS (exHall (exLev [exRow ma mn mc [⟨2, 1, 0⟩, ⟨4, 2, 1⟩]] ra rn rc g2 g3 da dn dc [⟨0, 0⟩]) g5) = ([⟨1, 0, 0, 0, 1, 3, 5, 0, 1⟩, ⟨2, 0, 0, 0, 2, 5, 5, 0, 0⟩, ⟨0, 0, 0, 0, 3, 7, 5, 0, -1⟩], []) := by
 have hp : placesS (exHall (exLev [exRow ma mn mc [⟨2, 1, 0⟩, ⟨4, 2, 1⟩]] ra rn rc g2 g3 da dn dc [⟨0, 0⟩]) g5) = [⟨1, 0, 0, 0, 1, 3, 5, 0, 1⟩, ⟨2, 0, 0, 0, 2, 5, 5, 0, 0⟩, ⟨0, 0, 0, 0, 3, 7, 5, 0, -1⟩] := by kernel_rfl
 have h := build_ok (h := exHall (exLev [exRow ma mn mc [⟨2, 1, 0⟩, ⟨4, 2, 1⟩]] ra rn rc g2 g3 da dn dc [⟨0, 0⟩]) g5) rfl (by kernel_rfl) (by kernel_rfl) (by kernel_rfl) reach_one (F := []) (by kernel_rfl)
 unfold buildS
 rw [if_pos h, hp]
theorem ex_h : buildS (exHall (exLev [exRow ma mn mc [], exRow2] ra rn rc g2 g3 da dn dc [⟨0, 0⟩]) g5) = ([], [⟨13, 9, 7⟩, ⟨14, 9, -1⟩]) := by
 have h := build_ok (h := exHall (exLev [exRow ma mn mc [], exRow2] ra rn rc g2 g3 da dn dc [⟨0, 0⟩]) g5) rfl (by kernel_rfl) (by kernel_rfl) (by kernel_rfl) reach_one (F := [⟨13, 9, 7⟩, ⟨14, 9, -1⟩]) (by kernel_rfl)
 unfold buildS
 rw [h, if_neg (by simp)]
theorem ex_i : buildS (exHall (exLev [exRow ma mn mc []] ra rn rc g2 g3 da dn dc []) g5) = ([], [⟨14, 7, -1⟩]) := by
 have h := build_ok (h := exHall (exLev [exRow ma mn mc []] ra rn rc g2 g3 da dn dc []) g5) rfl (by kernel_rfl) (by kernel_rfl) (by kernel_rfl) reach_off (F := [⟨14, 7, -1⟩]) (by kernel_rfl)
 unfold buildS
 rw [h, if_neg (by simp)]
theorem ex_j : buildS (exHall (exLev [exRow ma mn mc [⟨4, 2, 1⟩]] ra rn rc g2 g3 da dn dc [⟨0, 0⟩]) g5) = ([], [⟨11, 7, -1⟩]) := by
 have hs : singleS (exHall (exLev [exRow ma mn mc [⟨4, 2, 1⟩]] ra rn rc g2 g3 da dn dc [⟨0, 0⟩]) g5) = [⟨11, 7, -1⟩] := by kernel_rfl
 have h : faultsS (exHall (exLev [exRow ma mn mc [⟨4, 2, 1⟩]] ra rn rc g2 g3 da dn dc [⟨0, 0⟩]) g5) = [⟨11, 7, -1⟩] := by
  unfold faultsS
  rw [if_pos (by rw [hs]; simp), hs]
 unfold buildS
 rw [h, if_neg (by simp)]
end
end Go.Proofs.YtmcdhggnpfhlmaaGreat
