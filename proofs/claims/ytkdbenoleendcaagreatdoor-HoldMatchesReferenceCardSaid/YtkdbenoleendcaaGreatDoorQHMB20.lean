/- hold.end: the walk. -/
import Derived.Test.YtkdbenoleendcaaGreatDoorQHMB19

namespace Go.Proofs.YtkdbenoleendcaaGreatDoor
open Go.RowKit Go.IntWalk Go.Maps Go.WideMaps

/-- A list of places that an operation hands back: none, or the places of a hold. -/
def PlRes (w : World) (F : Nat → Prop) (v : Value) (L : List Int) : Prop :=
  (L = [] ∧ v = .slice none 0 0) ∨ ∃ b c, v = .slice (some ⟨b, 0, none⟩) L.length c ∧ F b ∧ IntRow w b 3 L

theorem mark_none {w : World} {F : Nat → Prop} {g M sb : Nat} {E : List OwnT} {st : St} (h : HoldC w F g M sb E st) (x : OwnT) (hx : x ∈ E) : x.1 ∈ st.op := by
  rw [← h.ops]
  exact List.mem_map_of_mem hx

def zeroHoldV : Value := .agg #[.int .i64 0, .string (bs []), .int .i64 0, .slice none 0 0, .int .i64 0, .int .i64 0]
theorem zeroHold (w : World) : (zeroValue 51).run Tryz.prog w = .ok zeroHoldV w := by kernel_rfl

theorem look_hold {w : World} {M n : Nat} {E : List OwnT} (h : w.ownsMap Tryz.prog 3 RH M n (mapH E)) {id : Int} (hw : (Lit.int .i64 id).wf = true) :
    (Instr.lookup 54 (.map (some M)) (.int .i64 id) true).run Tryz.prog w = .ok (.tuple #[match findO E id with | some x => holdV x | none => zeroHoldV, .bool (findO E id).isSome]) w := by
  obtain ⟨v, ps, hrun, hv⟩ := h.look_ok lawI Tryz.underlying54 (zeroHold w) (zd := .held zeroHoldV) (zp := []) rfl (keyOf_int_mk Tryz.underlying3 hw)
  rw [mapH_has] at hrun
  rw [mapH_at] at hv
  rw [hrun]
  cases hf : findO E id with
  | none => rw [hf] at hv; rw [RH_inv hv]
  | some x => rw [hf] at hv; rw [RH_inv hv]

theorem HoldC.ne_M {w : World} {F : Nat → Prop} {g M sb : Nat} {E : List OwnT} {st : St} (h : HoldC w F g M sb E st) {i : Nat} {arr : Array Value} {T : TypeId} {x : Nat × Nat} (hi : w.heap[i]? = some (.cells arr T x)) : i ≠ M := by
  rintro rfl
  obtain ⟨es, c, e⟩ := h.map_blk
  rw [hi] at e
  cases e

theorem findO_mem {E : List OwnT} {id : Int} {x : OwnT} (h : findO E id = some x) : x ∈ E ∧ x.1.1 = id := by
  unfold findO at h
  exact ⟨List.mem_of_find?_eq_some h, by have := List.find?_some h; simpa using this⟩

/-- What an operation that ends a hold returns, and leaves. -/
def EndPost (F : Nat → Prop) (g M sb : Nat) (w : World) (r : (List Int × Int) × St) (e : Ending) (w' : World) : Prop :=
  ∃ v E', e = .returned (.tuple #[v, .int .i64 r.1.2]) ∧ PlRes w' F v r.1.1 ∧ HoldC w' F g M sb E' r.2 ∧ Upd (Own3 g M sb) w w'

set_option maxRecDepth 100000 in
theorem end_any (w : World) (F : Nat → Prop) (g M sb : Nat) (E : List OwnT) (st : St) (id : Int) (s : SpT) (h : HoldC w F g M sb E st) (hw : (Lit.int .i64 id).wf = true)
    (hinv : Inv (endS st id s).2) :
    Calls Tryz.prog 44 #[.pointer (some ⟨g, 0, none⟩), .int .i64 id, .agg #[.int .i64 s.1, .int .i64 s.2]] w (EndPost F g M sb w (endS st id s)) := by
  have HH := Lib.hid h
  clear h
  have hwn : Hid (w.heap.size = w.heap.size) := rfl
  go_enter Tryz.func44, Tryz.ntmps44
  go_upto_region 1 with fail
  have HB1 : Hid (Below w.heap.size w (w.alloc (.cells #[.int .i64 s.1, .int .i64 s.2] 53))) := Joins.below_alloc1 _ _
  have HX1 : Hid (BoxS (w.alloc (.cells #[.int .i64 s.1, .int .i64 s.2] 53)) w.heap.size s) := World.alloc_heap_new w _
  have HH1 : Hid (HoldC (w.alloc (.cells #[.int .i64 s.1, .int .i64 s.2] 53)) F g M sb E st) :=
    HH.out.keep (T := fun _ => False) (Upd.of_below HB1.out) (fun _ _ h => h) (fun _ _ h => h)
  generalize w.alloc (.cells #[.int .i64 s.1, .int .i64 s.2] 53) = w1 at *
  have g0 : w1.cell? ⟨g, 0, none⟩ = some (.map (some M)) := by rw [cell_of_row _ _ _ _ _ _ HH1.out.blk]; rfl
  have hrun := look_hold HH1.out.map hw
  cases hf : findO E id with
  | none =>
    have HS : Hid (endS st id s = (([], 11), st)) := by
      show _ = _
      unfold endS
      rw [← HH1.out.ops, find_own, hf]
      rfl
    rw [hf] at hrun
    simp only [Option.isSome_none, zeroHoldV] at hrun
    clear hf
    go_upto_region 4 with fail
    have HB2 : Hid (Below w.heap.size w (w1.alloc (.cells #[.int .i64 0, .string (bs []), .int .i64 0, .slice none 0 0, .int .i64 0, .int .i64 0] 51))) := HB1.out.trans ((Joins.below_alloc1 _ _).mono HB1.out.size)
    have HH2 : Hid (HoldC (w1.alloc (.cells #[.int .i64 0, .string (bs []), .int .i64 0, .slice none 0 0, .int .i64 0, .int .i64 0] 51)) F g M sb E st) :=
      HH1.out.keep (T := fun _ => False) (Upd.of_below (Joins.below_alloc1 _ _)) (fun _ _ h => h) (fun _ _ h => h)
    generalize w1.alloc (.cells #[.int .i64 0, .string (bs []), .int .i64 0, .slice none 0 0, .int .i64 0, .int .i64 0] 51) = w2 at *
    clear hrun g0
    go_wp2_with fail
    go_ret2
    refine ⟨_, E, by rw [HS.out]; rfl, ?_, by rw [HS.out]; exact HH2.out, Upd.of_below HB2.out⟩
    rw [HS.out]
    exact Or.inl ⟨rfl, rfl⟩
  | some x =>
    obtain ⟨hxm, hxi⟩ := findO_mem hf
    have HS : Hid (endS st id s = ((x.1.2.2.1, 0), ⟨markS st.sp x.1.2.2.1 s, st.last, dropH st.op id⟩)) := by
      show _ = _
      unfold endS
      rw [← HH1.out.ops, find_own, hf]
      rfl
    rw [hf] at hrun
    simp only [Option.isSome_some, holdV] at hrun
    obtain ⟨b, hxb, hFb, hIR⟩ := HH1.out.pls x hxm
    obtain ⟨⟨hid, nm', L, til, cls⟩, xa, xc⟩ := x
    dsimp only at hxb hxi hIR hrun HS
    subst hxb
    have HXM := Lib.hid hxm
    have HXI := Lib.hid hxi
    clear hxm hxi hf
    go_upto_region 4 with fail
    have HB2 : Hid (Below w.heap.size w (w1.alloc (.cells #[.int .i64 hid, .string (bs nm'), .int .i64 0, .slice (some ⟨b, 0, none⟩) L.length xc, .int .i64 til, .int .i64 cls] 51))) := HB1.out.trans ((Joins.below_alloc1 _ _).mono HB1.out.size)
    have hb12 : Hid (Below w1.heap.size w1 (w1.alloc (.cells #[.int .i64 hid, .string (bs nm'), .int .i64 0, .slice (some ⟨b, 0, none⟩) L.length xc, .int .i64 til, .int .i64 cls] 51))) := Joins.below_alloc1 _ _
    have HC2 : Hid ((w1.alloc (.cells #[.int .i64 hid, .string (bs nm'), .int .i64 0, .slice (some ⟨b, 0, none⟩) L.length xc, .int .i64 til, .int .i64 cls] 51)).heap[w1.heap.size]? = some (.cells #[.int .i64 hid, .string (bs nm'), .int .i64 0, .slice (some ⟨b, 0, none⟩) L.length xc, .int .i64 til, .int .i64 cls] 51 (0, 0))) := World.alloc_heap_new _ _
    have HH2 : Hid (HoldC (w1.alloc (.cells #[.int .i64 hid, .string (bs nm'), .int .i64 0, .slice (some ⟨b, 0, none⟩) L.length xc, .int .i64 til, .int .i64 cls] 51)) F g M sb E st) :=
      HH1.out.keep (T := fun _ => False) (Upd.of_below hb12.out) (fun _ _ h => h) (fun _ _ h => h)
    generalize w1.alloc (.cells #[.int .i64 hid, .string (bs nm'), .int .i64 0, .slice (some ⟨b, 0, none⟩) L.length xc, .int .i64 til, .int .i64 cls] 51) = w2 at *
    have HX2 : Hid (BoxS w2 w.heap.size s) := (hb12.out.block _ (lt_of_block HX1.out)).trans HX1.out
    have hIR2 : Hid (IntRow w2 b 3 L) := hIR.keep (T := fun _ => False) (Upd.of_below hb12.out) (fun h => h)
    clear hrun g0 hIR
    have g0 : w2.cell? ⟨g, 0, none⟩ = some (.map (some M)) := by rw [cell_of_row _ _ _ _ _ _ HH2.out.blk]; rfl
    have HK : Hid (keyOf Tryz.prog 3 (.int .i64 id) = some (.int .i64 id)) := keyOf_int_mk Tryz.underlying3 hw
    go_wp2_with (at_delete; refine wpList_delete_own _ rfl _ _ 54 3 rfl 51 lawI Tryz.underlying54 _ M E.length (mapH E) rfl HH2.out.map _ _ rfl HK.out ?_; intro w3 hown3 hturn3; have HO3 := Lib.hid hown3; have HT3 := Lib.hid hturn3.grown; clear hown3 hturn3; have z0 := cell_of_row (j := 3) _ _ _ _ _ ((HT3.out.block _ (lt_of_block HC2.out) (by have := HH2.out.ne_M HC2.out; simpa using this)).trans HC2.out); have HX3 := Lib.hid ((HT3.out.block _ (lt_of_block HX2.out) (by have := HH2.out.ne_M HX2.out; simpa using this)).trans HX2.out); have x0 := BoxS.c0 HX3.out; have x1 := BoxS.c1 HX3.out)
    obtain ⟨arr0, hsb0, hsb1⟩ := HH2.out.sps
    have hbM : b ≠ M := by
      obtain ⟨arr, ha, _⟩ := hIR2.out
      exact HH2.out.ne_M ha
    have hbs : b ≠ sb := fun e => HH2.out.pl_own (x := ((hid, nm', L, til, cls), some ⟨b, 0, none⟩, xc)) hIR2.out (Or.inr (Or.inr e))
    have hIR3 : Hid (IntRow w3 b 3 L) := by
      obtain ⟨arr, ha, r⟩ := hIR2.out
      exact ⟨arr, (HT3.out.block b (lt_of_block ha) (by simpa using hbM)).trans ha, r⟩
    have hS3 : RecRow SpE w3 sb 53 st.sp := HH2.out.sps.grown HT3.out (by have := HH2.out.ne_sM; simpa using this)
    have hblk3 := (HT3.out.block g (lt_of_block HH2.out.blk) (by have := HH2.out.ne_gM; simpa using this)).trans HH2.out.blk
    have hch := HH2.out.inv.chs _ (by rw [← HH2.out.ops]; exact List.mem_map_of_mem HXM.out)
    have hchs := choice_iff.mp hch
    dsimp only at hchs
    refine (mark_any g sb _ _ _ _ st.sp L s (some ⟨b, 0, none⟩) L.length xc w3 hblk3 HH2.out.ne_gs hS3 rfl (by omega) hchs.2.1 (fun wx hg => ?_)).mono ?_
    · have : IntRow wx b 3 L := by
        obtain ⟨arr, ha, r⟩ := hIR3.out
        exact ⟨arr, (hg.block b (lt_of_block ha) (by simpa using hbs)).trans ha, r⟩
      exact ⟨rfl, fun k hk => ⟨b, 0, rfl, by rw [Nat.zero_add]; exact this.cell k hk⟩⟩
    rintro e w4 ⟨rfl, hg4, hr4⟩
    have HG4 := Lib.hid hg4
    have HR4 := Lib.hid hr4
    have z4 : w4.cell? ⟨w1.heap.size, 3, none⟩ = some (.slice (some ⟨b, 0, none⟩) L.length xc) := by
      have hc3 := (HT3.out.block _ (lt_of_block HC2.out) (by have := HH2.out.ne_M HC2.out; simpa using this)).trans HC2.out
      have hne : w1.heap.size ≠ sb := type_ne HC2.out hsb0 (by decide)
      have hc4 := (HG4.out.block _ (lt_of_block hc3) (by simpa using hne)).trans hc3
      rw [cell_of_row _ _ _ _ _ _ hc4]
      rfl
    have HF4 : Hid (∃ E', HoldC w4 F g M sb E' (endS st id s).2) := by
      refine ⟨E.filter fun y => !decide (y.1.1 = id), ?_⟩
      have hu34 : Upd (fun i => i = sb) w3 w4 := Upd.of_row HG4.out (fun b e => by cases e; rfl)
      have hu23 : Upd (fun i => i = M) w2 w3 := Upd.of_row HT3.out (fun b e => by cases e; rfl)
      refine ⟨?_, ?_, ?_, ?_, ?_, hinv⟩
      · have hb4 := (HG4.out.block g (lt_of_block hblk3) (by have := HH2.out.ne_gs; simpa using this)).trans hblk3
        rw [HS.out]
        show w4.heap[g]? = _
        rw [hb4]
        dsimp only
        rw [mark_len]
      · have h3 := HO3.out
        rw [mapH_del] at h3
        exact (tight_map h3).kept HG4.out (by have := HH2.out.ne_sM; simp; omega)
      · rw [HS.out]; exact HR4.out
      · rw [HS.out]
        show _ = dropH st.op id
        rw [← HH2.out.ops, drop_own]
      · intro y hy
        have hyE := (List.mem_filter.mp hy).1
        obtain ⟨b', e', hb', hr'⟩ := HH2.out.pls y hyE
        have hno := HH2.out.pl_own hr'
        exact ⟨b', e', hb', (hr'.keep hu23 (fun h => hno (Or.inr (Or.inl h)))).keep hu34 (fun h => hno (Or.inr (Or.inr h)))⟩
    have HU4 : Hid (Upd (Own3 g M sb) w w4) :=
      (Upd.of_below HB2.out).trans ((Upd.of_row HT3.out (fun b e => by cases e; exact Or.inr (Or.inl rfl))).trans (Upd.of_row HG4.out (fun b e => by cases e; exact Or.inr (Or.inr rfl))))
    have HI4 : Hid (IntRow w4 b 3 L) := by
      obtain ⟨arr, ha, r⟩ := hIR3.out
      exact ⟨arr, (HG4.out.block b (lt_of_block ha) (by simpa using hbs)).trans ha, r⟩
    clear hg4 hr4 hS3 hblk3 hsb0 hsb1 z0 x0 x1 g0 hch hchs
    go_wp2_with fail
    go_ret2
    obtain ⟨E', hE'⟩ := HF4.out
    refine ⟨_, E', by rw [HS.out]; rfl, ?_, hE', HU4.out⟩
    rw [HS.out]
    exact Or.inr ⟨b, xc, rfl, hFb, HI4.out⟩
end Go.Proofs.YtkdbenoleendcaaGreatDoor
