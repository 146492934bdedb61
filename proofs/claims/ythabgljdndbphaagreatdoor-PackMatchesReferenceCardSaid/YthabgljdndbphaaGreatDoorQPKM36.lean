/- fit.Check: the walk. -/
import Derived.Test.YthabgljdndbphaaGreatDoorQPKM10
import Derived.Test.YthabgljdndbphaaGreatDoorQPKM16
import Derived.Test.YthabgljdndbphaaGreatDoorQPKM33
import Derived.Test.YthabgljdndbphaaGreatDoorQPKM35

set_option linter.unusedVariables false
set_option linter.unusedSimpArgs false
namespace Go.Proofs.YthabgljdndbphaaGreatDoor
open Go.RowKit Go.IntWalk

theorem make_seen (n : Nat) (hn : n ≤ 100000) : ∃ arr : Array Value, arr.size = n ∧ (∀ k, k < n → arr[k]? = some (.bool false)) ∧
  ∀ w : World, (Instr.makeSlice 77 (.int .i64 (n : Int)) (.int .i64 (n : Int))).run Tryz.prog w = .ok (.slice (some ⟨w.heap.size, 0, none⟩) n n) (w.alloc (.cells arr 4)) := by
 have hinfo : (Tryz.prog.info? 4).map (fun i => (i.zero, i.size, i.bytes)) = some (some (.bool false), 1, 1) := by kernel_rfl
 obtain ⟨i, hi, hzz⟩ := Option.map_eq_some_iff.1 hinfo
 simp only [Prod.mk.injEq] at hzz
 obtain ⟨hz, hs, hb⟩ := hzz
 refine ⟨madeCells #[.bool false] n, size_madeCells _ _, fun k hk => ?_, fun w => ?_⟩
 ·
  simp only [madeCells, Array.getElem?_map, Array.getElem?_range, hk]
  simp [Nat.mod_one]
 ·
  have h := run_make (P := Tryz.prog) w 77 4 i (.bool false) Tryz.underlying77 hi hz .i64 .i64 n n (by omega) (Int.le_refl _) (by rw [hb]; omega) (by omega)
  rw [hs] at h
  simpa [Value.cells] using h

def bkE (n : Nat) (k : Nat) (u : Value) : Option Nat :=
 match u with
 | .slice (some q) _ _ => if k = 3 ∧ n = 0 then none else some q.block
 | .map (some b) => some b
 | _ => none

/-- Five cells that stay where old blocks stay. -/
theorem keep5 {w w' : World} {b1 b2 b3 b4 b5 o1 o2 o3 o4 o5 : Nat} {v1 v2 v3 v4 v5 : Value} (hb : Below w.heap.size w w')
  (h : w.cell? ⟨b1, o1, none⟩ = some v1 ∧ w.cell? ⟨b2, o2, none⟩ = some v2 ∧ w.cell? ⟨b3, o3, none⟩ = some v3 ∧ w.cell? ⟨b4, o4, none⟩ = some v4 ∧ w.cell? ⟨b5, o5, none⟩ = some v5) :
  w'.cell? ⟨b1, o1, none⟩ = some v1 ∧ w'.cell? ⟨b2, o2, none⟩ = some v2 ∧ w'.cell? ⟨b3, o3, none⟩ = some v3 ∧ w'.cell? ⟨b4, o4, none⟩ = some v4 ∧ w'.cell? ⟨b5, o5, none⟩ = some v5 :=
 ⟨Below.cell_of hb h.1, Below.cell_of hb h.2.1, Below.cell_of hb h.2.2.1, Below.cell_of hb h.2.2.2.1, Below.cell_of hb h.2.2.2.2⟩

theorem blk_slice {n k B l c : Nat} {w w' : World} (h1 : w.heap.size ≤ B) (h2 : B < w'.heap.size) (b : Nat) (h : bkE n k (.slice (some ⟨B, 0, none⟩) l c) = some b) : w.heap.size ≤ b ∧ b < w'.heap.size := by
 simp [bkE] at h
 obtain ⟨_, rfl⟩ := h
 exact ⟨h1, h2⟩

theorem blk_map {n k B : Nat} {w w' : World} (h1 : w.heap.size ≤ B) (h2 : B < w'.heap.size) (b : Nat) (h : bkE n k (.map (some B)) = some b) : w.heap.size ≤ b ∧ b < w'.heap.size := by
 simp [bkE] at h
 subst h
 exact ⟨h1, h2⟩

theorem blk_own {n c : Nat} {R : List Int} {la : Option Addr} {w w' : World} (ho : OwnInts w' w.heap.size la n R) (b : Nat) (h : bkE n 3 (.slice la n c) = some b) : w.heap.size ≤ b ∧ b < w'.heap.size := by
 cases la with
 | none => simp [bkE] at h
 | some q =>
  simp [bkE] at h
  obtain ⟨h0, rfl⟩ := h
  obtain ⟨b, e, hb, r⟩ := ho.2 (by omega)
  simp only [Option.some.injEq] at e
  subst e
  exact ⟨hb, r.lt⟩

theorem alloc_lt (w : World) (o : Obj) : w.heap.size < (w.alloc o).heap.size := by simp

theorem IMap.made {w : World} : IMap (w.alloc (.map #[] 0)) w.heap.size [] := ⟨#[], 0, by show (w.heap.push _)[w.heap.size]? = _; simp, rfl⟩

/-- What each of the five effects of the judge's making leaves. -/
def FE (n m l : Nat) (R : List Int) (G : List (Int × Int)) (k : Nat) (u : Value) (w : World) : Prop :=
 match k with
 | 0 => ∃ b, u = .slice (some ⟨b, 0, none⟩) l l ∧ BoolRow w b 4 (List.replicate l false)
 | 1 => ∃ b, u = .slice (some ⟨b, 0, none⟩) m m ∧ IntRow w b 3 (rankedL G)
 | 2 => ∃ b, u = .map (some b) ∧ IMap w b []
 | 3 => ∃ la c', u = .slice la n c' ∧ (0 < n → ∃ b, la = some ⟨b, 0, none⟩ ∧ IntRow w b 3 R)
 | _ => ∃ b, u = .slice (some ⟨b, 0, none⟩) n n ∧ IntRow w b 3 (List.replicate n 0)

theorem FE.below {n m l : Nat} {R : List Int} {G : List (Int × Int)} (k : Nat) (u : Value) (w w' : World) (h : FE n m l R G k u w) (hb : Below w.heap.size w w') : FE n m l R G k u w' := by
 unfold FE at *
 match k with
 | 0 => obtain ⟨b, e, r⟩ := h; exact ⟨b, e, r.of_heap (hb.block _ r.lt)⟩
 | 1 => obtain ⟨b, e, r⟩ := h; exact ⟨b, e, r.below hb⟩
 | 2 => obtain ⟨b, e, r⟩ := h; exact ⟨b, e, r.below hb⟩
 | 3 => obtain ⟨la, c', e, r⟩ := h; exact ⟨la, c', e, fun hn => by obtain ⟨b, e, r⟩ := r hn; exact ⟨b, e, r.below hb⟩⟩
 | k + 4 => obtain ⟨b, e, r⟩ := h; exact ⟨b, e, r.below hb⟩

/-- What lies behind the five effects. -/
structure Made (w w4 : World) (n m l : Nat) (R : List Int) (G : List (Int × Int)) (sb ob mb ub : Nat) (la : Option Addr) : Prop where
 seen : BoolRow w4 sb 4 (List.replicate l false)
 ord : IntRow w4 ob 3 (rankedL G)
 map : IMap w4 mb []
 used : IntRow w4 ub 3 (List.replicate n 0)
 ge : w.heap.size ≤ sb ∧ w.heap.size ≤ ob ∧ w.heap.size ≤ mb ∧ w.heap.size ≤ ub
 ne : sb ≠ ob ∧ sb ≠ mb ∧ sb ≠ ub ∧ ob ≠ mb ∧ ob ≠ ub ∧ mb ≠ ub
 room : 0 < n → ∃ rb, la = some ⟨rb, 0, none⟩ ∧ IntRow w4 rb 3 R ∧ w.heap.size ≤ rb ∧ rb ≠ sb ∧ rb ≠ ob ∧ rb ≠ mb ∧ rb ≠ ub

theorem made_of {w w4 : World} {n m l : Nat} {R : List Int} {G : List (Int × Int)} {D : List Bool} {N : Nat} {v : Nat → Value} {sb ob mb ub lc : Nat} {la : Option Addr} (hI : EffInv (FE n m l R G) (bkE n) w N D v w4)
  (f0 : v 0 = .slice (some ⟨sb, 0, none⟩) l l) (f1 : v 1 = .slice (some ⟨ob, 0, none⟩) m m) (f2 : v 2 = .map (some mb)) (f3 : v 3 = .slice la n lc) (f4 : v 4 = .slice (some ⟨ub, 0, none⟩) n n)
  (F0 : BoolRow w4 sb 4 (List.replicate l false)) (F1 : IntRow w4 ob 3 (rankedL G)) (F2 : IMap w4 mb []) (F3 : 0 < n → ∃ b, la = some ⟨b, 0, none⟩ ∧ IntRow w4 b 3 R) (F4 : IntRow w4 ub 3 (List.replicate n 0))
  (hN : N = 5 := by rfl) (hD : D = [true, true, true, true, true] := by rfl) : Made w w4 n m l R G sb ob mb ub la := by
 subst hN hD
 have b0 : bkE n 0 (v 0) = some sb := by rw [f0]; simp [bkE]
 have b1 : bkE n 1 (v 1) = some ob := by rw [f1]; simp [bkE]
 have b2 : bkE n 2 (v 2) = some mb := by rw [f2]; simp [bkE]
 have b4 : bkE n 4 (v 4) = some ub := by rw [f4]; simp [bkE]
 have g : ∀ j k x y, j < 5 → k < 5 → j ≠ k → bkE n j (v j) = some x → bkE n k (v k) = some y → x ≠ y := fun j k x y hj hk hjk hx hy e => by
  subst e
  refine hI.apart j k x hj hk hjk ?_ ?_ hx hy
  ·
   match j, hj with
   | 0, _ | 1, _ | 2, _ | 3, _ | 4, _ => rfl
  ·
   match k, hk with
   | 0, _ | 1, _ | 2, _ | 3, _ | 4, _ => rfl
 have l0 := (hI.blk 0 sb (by omega) rfl b0).1
 have l1 := (hI.blk 1 ob (by omega) rfl b1).1
 have l2 := (hI.blk 2 mb (by omega) rfl b2).1
 have l4 := (hI.blk 4 ub (by omega) rfl b4).1
 refine ⟨F0, F1, F2, F4, ⟨l0, l1, l2, l4⟩, ⟨g 0 1 _ _ (by omega) (by omega) (by omega) b0 b1, g 0 2 _ _ (by omega) (by omega) (by omega) b0 b2, g 0 4 _ _ (by omega) (by omega) (by omega) b0 b4,
  g 1 2 _ _ (by omega) (by omega) (by omega) b1 b2, g 1 4 _ _ (by omega) (by omega) (by omega) b1 b4, g 2 4 _ _ (by omega) (by omega) (by omega) b2 b4⟩, fun hn => ?_⟩
 obtain ⟨rb, e, r⟩ := F3 hn
 have b3 : bkE n 3 (v 3) = some rb := by rw [f3, e]; simp [bkE]; omega
 exact ⟨rb, e, r, (hI.blk 3 rb (by omega) rfl b3).1, g 3 0 _ _ (by omega) (by omega) (by omega) b3 b0, g 3 1 _ _ (by omega) (by omega) (by omega) b3 b1, g 3 2 _ _ (by omega) (by omega) (by omega) b3 b2,
  g 3 4 _ _ (by omega) (by omega) (by omega) b3 b4⟩

def putMap (w : World) (b : Nat) (o : Obj) : World := { w with heap := w.heap.setIfInBounds b o }

theorem putMap_get {w : World} {b : Nat} {o o' : Obj} (h : w.heap[b]? = some o) : (putMap w b o').heap[b]? = some o' := (MapKept.heap_set h).1

theorem putMap_size (w : World) (b : Nat) (o : Obj) : (putMap w b o).heap.size = w.heap.size := by simp [putMap]

theorem kinsert {w : World} {b : Nat} {arr : Array MapEntry} {clock : Nat} (h : w.heap[b]? = some (.map arr clock)) (k : Int) (v : Value) (hn : Instr.findNow (.int .i64) (.int .i64 k) arr.toList 0 = some none) :
  (Instr.mapUpdate 81 (.map (some b)) (.int .i64 k) v).run Tryz.prog w = .ok () (putMap w b (.map (arr.push ⟨.int .i64 k, v, clock⟩) (clock + 1))) := by
 have hf := MapKept.run_findKey (w := w) Tryz.underlying3 hn
 have hk : MapKept.IsKey (.int .i64) (.int .i64 k) := by exact rfl
 have hc := MapKept.run_checkKey (w := w) Tryz.underlying3 hk false 9999
 simp [Instr.mapUpdate, run_underlying Tryz.underlying81, MapKept.run_getObj_map h, MapKept.run_setObj_map _ h, hc, hf, Result.andThen, putMap]

def kfun (f : FuncId) (jb : Nat) : Value := .func (.func f) #[.pointer (some ⟨jb, 0, none⟩)] #[]

/-- The three kinds are put into a new map. -/
theorem kinds_run (w : World) (jb : Nat) : ∃ wA wB wC, (Instr.mapUpdate 81 (.map (some w.heap.size)) (.int .i64 1) (kfun 35 jb)).run Tryz.prog (w.alloc (.map #[] 0)) = .ok () wA ∧
  (Instr.mapUpdate 81 (.map (some w.heap.size)) (.int .i64 2) (kfun 36 jb)).run Tryz.prog wA = .ok () wB ∧
  (Instr.mapUpdate 81 (.map (some w.heap.size)) (.int .i64 3) (kfun 37 jb)).run Tryz.prog wB = .ok () wC ∧ KMap wC w.heap.size jb ∧ Below w.heap.size w wC ∧ w.heap.size < wC.heap.size := by
 have h0 : (w.alloc (.map #[] 0)).heap[w.heap.size]? = some (.map #[] 0) := by show (w.heap.push _)[w.heap.size]? = _; simp
 have e1 := kinsert h0 1 (kfun 35 jb) rfl
 have h1 := putMap_get (o' := .map (#[].push ⟨.int .i64 1, kfun 35 jb, 0⟩) (0 + 1)) h0
 have e2 := kinsert h1 2 (kfun 36 jb) rfl
 have h2 := putMap_get (o' := .map ((#[].push ⟨.int .i64 1, kfun 35 jb, 0⟩).push ⟨.int .i64 2, kfun 36 jb, 0 + 1⟩) (0 + 1 + 1)) h1
 have e3 := kinsert h2 3 (kfun 37 jb) rfl
 have h3 := putMap_get (o' := .map (((#[].push ⟨.int .i64 1, kfun 35 jb, 0⟩).push ⟨.int .i64 2, kfun 36 jb, 0 + 1⟩).push ⟨.int .i64 3, kfun 37 jb, 0 + 1 + 1⟩) (0 + 1 + 1 + 1)) h2
 have set_below : ∀ (u : World) (o : Obj), Below w.heap.size w u → Below w.heap.size w (putMap u w.heap.size o) := fun u o hb =>
  ⟨hb.os, hb.tape, hb.output, by rw [putMap_size]; exact hb.size, fun i hi => by
   have := hb.block i hi
   rw [← this]
   show (u.heap.setIfInBounds w.heap.size o)[i]? = _
   rw [Array.getElem?_setIfInBounds, if_neg (by omega)]⟩
 exact ⟨_, _, _, e1, e2, e3, ⟨_, _, h3, rfl⟩, set_below _ _ (set_below _ _ (set_below _ _ ((Below.refl _ _).alloc (Nat.le_refl _) _))), by rw [putMap_size, putMap_size, putMap_size]; exact alloc_lt _ _⟩

/-- The judge is made, and asked about the first step. -/
theorem start_any {ra ga pa la : Option Addr} {n c m d l pc sb ob mb ub lc kb : Nat} {single : Bool} {V0 : Int} {R : List Int} {G : List (Int × Int)} {T : List StepT} {w wD w4 wC : World}
  (hn : n ≤ 4000) (hm : m ≤ 4000) (hl : l ≤ 100000) (hl0 : 0 < l) (hR : Ints w ra n R) (hG : Pairs w ga m G) (hT : Steps w pa l T) (hv : validS R G = true) (hwD : w.heap.size < wD.heap.size) (hb4 : Below w.heap.size w w4)
  (hM : Made wD w4 n m l R G sb ob mb ub la) (hb6 : Below w4.heap.size w4 wC) (hK : KMap wC kb w4.heap.size) (hkb : w4.heap.size < kb)
  (hbox : Box wC w4.heap.size 83 #[.slice ra n c, .slice ga m d, .bool single, .int .i64 V0, .slice pa l pc, .slice (some ⟨sb, 0, none⟩) l l, .slice (some ⟨ob, 0, none⟩) m m, .map (some mb),
      .slice la n lc, .slice (some ⟨ub, 0, none⟩) n n, .int .i64 0, .map none]) :
  Calls Tryz.prog 38 #[.pointer (some ⟨w4.heap.size, 0, none⟩), .int .i64 0] (wC.setCell ⟨w4.heap.size, 11, none⟩ (.map (some kb))) fun e w' => e = .returned (.bool (checkS single R G V0 T)) ∧ Below w.heap.size w w' := by
 have hp := validS_parts hv
 have hrs := runsOk_sum R 4000 (by omega) hp.1
 have hbC : Below w.heap.size w wC := hb4.trans (hb6.mono hb4.size)
 have hbS : Below w.heap.size w (wC.setCell ⟨w4.heap.size, 11, none⟩ (.map (some kb))) := hbC.setCell hb4.size _
 have l0 := hM.seen.lt
 have l1 := hM.ord.lt
 have l2 : mb < w4.heap.size := by obtain ⟨arr, clock, h1, _⟩ := hM.map; exact lt_of_block h1
 have l4 := hM.used.lt
 have g := hM.ge
 have ne := hM.ne
 obtain ⟨rb, hrb, r0, r1, r2, r3, r4, r5⟩ : ∃ rb, (0 < n → la = some ⟨rb, 0, none⟩ ∧ IntRow w4 rb 3 R) ∧ w.heap.size ≤ rb ∧ rb < w4.heap.size ∧ rb ≠ sb ∧ rb ≠ ob ∧ rb ≠ mb ∧ rb ≠ ub := by
  by_cases h0 : 0 < n
  ·
   obtain ⟨rb, e, r, a1, a2, a3, a4, a5⟩ := hM.room h0
   exact ⟨rb, fun _ => ⟨e, r⟩, by omega, r.lt, a2, a3, a4, a5⟩
  ·
   exact ⟨w.heap.size, fun h => absurd h h0, Nat.le_refl _, by omega, by omega, by omega, by omega, by omega⟩
 have hk : ∀ q, q < w4.heap.size → (wC.setCell ⟨w4.heap.size, 11, none⟩ (.map (some kb))).heap[q]? = w4.heap[q]? := fun q hq => by
  rw [heap_set q (by omega)]; exact hb6.block q hq
 have hkk : kb < wC.heap.size := by obtain ⟨arr, clock, h1, _⟩ := hK; exact lt_of_block h1
 let J : JA := { jb := w4.heap.size, mb := mb, rb := rb, ub := ub, sb := sb, kb := kb, la := la, oa := some ⟨ob, 0, none⟩, ra := ra, ga := ga, pa := pa, lc := lc, oc := m, n := n, c := c, m := m, d := d, k := l, pc := pc, single := single, most := V0 }
 have hj : JOk J w.heap.size := by
  refine ⟨?_, ?_, fun q hq => ?_⟩
  ·
   show w.heap.size ≤ w4.heap.size ∧ w.heap.size ≤ mb ∧ w.heap.size ≤ rb ∧ w.heap.size ≤ ub ∧ w.heap.size ≤ sb ∧ w.heap.size ≤ kb
   have := hb4.size
   omega
  ·
   show w4.heap.size ≠ mb ∧ w4.heap.size ≠ rb ∧ w4.heap.size ≠ ub ∧ w4.heap.size ≠ sb ∧ w4.heap.size ≠ kb ∧ mb ≠ rb ∧ mb ≠ ub ∧ mb ≠ sb ∧ mb ≠ kb ∧ rb ≠ ub ∧ rb ≠ sb ∧ rb ≠ kb ∧ ub ≠ sb ∧ ub ≠ kb ∧ sb ≠ kb
   omega
  ·
   obtain rfl : (⟨ob, 0, none⟩ : Addr) = q := by simpa [J] using hq
   show ob ≠ w4.heap.size ∧ ob ≠ mb ∧ ob ≠ rb ∧ ob ≠ ub ∧ ob ≠ sb
   omega
 have hmem : JMem (wC.setCell ⟨w4.heap.size, 11, none⟩ (.map (some kb))) J R G [] (List.replicate l false) := by
  refine ⟨?_, hM.map.of_heap (hk _ l2), fun h0 => ⟨(hrb h0).1, (hrb h0).2.of_heap (hk _ r1)⟩, hM.used.of_heap (hk _ l4), hM.seen.of_heap (hk _ l0), hK.of_heap (heap_set _ (by show kb ≠ w4.heap.size; omega)), ?_⟩
  ·
   have := hbox.set 11 (.map (some kb))
   simpa [JA.cells, J, valS] using this
  ·
   show rb < _
   have := hb6.size
   simp [World.setCell]; omega
 have hord : JOrd (wC.setCell ⟨w4.heap.size, 11, none⟩ (.map (some kb))) J G := by
  have h1 := (hM.ord.of_heap (hk _ l1)).ints
  have h2 : (rankedL G).length = m := by rw [(rankedL_ok G).1.length_eq, idx_length]; exact hG.1
  rw [h2] at h1
  exact h1
 refine (jright_any l J w _ R G [] (List.replicate l false) T 0 hj hmem hord hbS hT hl0 (by show l ≤ 0 + l; omega) hG hp.2.2 hR.1 (fun r hr => hrs.2.2 r (by rw [hR.1]; exact hr)) hrs.2.1 (fun p hp => by simp at hp) (Nat.zero_le _) (by show (List.replicate l false).length = l; simp) hl hn hm).mono ?_
 rintro e w' ⟨rfl, _, _, hf⟩
 refine ⟨?_, hbS.trans (hf.to_below hj hbS.size)⟩
 unfold checkS
 rw [hT.1]

set_option maxRecDepth 10000 in
set_option maxHeartbeats 3200000 in
theorem check_any (ra ga sa pa : Option Addr) (n c m d k sc l pc : Nat) (single : Bool) (V0 : Int) (R : List Int) (G S : List (Int × Int)) (T : List StepT) (w : World)
  (hn : n ≤ 4000) (hm : m ≤ 4000) (hk : k ≤ 4000) (hR : Ints w ra n R) (hG : Pairs w ga m G) (hS : Pairs w sa k S) (hT : Steps w pa l T) (hc : ra = none → c = 0) :
  Calls Tryz.prog 17 #[.agg #[.slice ra n c, .slice ga m d, .bool single], .agg #[.slice sa k sc, .int .i64 V0], .agg #[.slice pa l pc]] w fun e w' =>
   ∃ q, e = .returned (.bool q) ∧ Below w.heap.size w w' ∧ (q = true ↔ LegalP single R G S V0 ∧ 0 < l ∧ l ≤ 100000 ∧ checkS single R G V0 T = true) := by
 have HR := Lib.hid hR; have HG := Lib.hid hG; have HS := Lib.hid hS; have HT := Lib.hid hT; have HC := Lib.hid hc
 have hb0 : Below w.heap.size w (((w.alloc (.cells #[.slice ra n c, .slice ga m d, .bool single] 25)).alloc (.cells #[.slice sa k sc, .int .i64 V0] 31)).alloc (.cells #[.slice pa l pc] 34)) := (((Below.refl _ _).alloc (Nat.le_refl _) _).alloc (by simp) _).alloc (by simp; omega) _
 have HBX0 : Hid (Box (((w.alloc (.cells #[.slice ra n c, .slice ga m d, .bool single] 25)).alloc (.cells #[.slice sa k sc, .int .i64 V0] 31)).alloc (.cells #[.slice pa l pc] 34)) w.heap.size 25 #[.slice ra n c, .slice ga m d, .bool single] ∧
   Box (((w.alloc (.cells #[.slice ra n c, .slice ga m d, .bool single] 25)).alloc (.cells #[.slice sa k sc, .int .i64 V0] 31)).alloc (.cells #[.slice pa l pc] 34)) (w.heap.size + 1) 31 #[.slice sa k sc, .int .i64 V0] ∧
   Box (((w.alloc (.cells #[.slice ra n c, .slice ga m d, .bool single] 25)).alloc (.cells #[.slice sa k sc, .int .i64 V0] 31)).alloc (.cells #[.slice pa l pc] 34)) (w.heap.size + 1 + 1) 34 #[.slice pa l pc]) :=
  ⟨((Box.new rfl).alloc _).alloc _, (Box.new (by simp)).alloc _, Box.new (by simp)⟩
 clear hR hG hS hT hc
 go_enter Tryz.func17, Tryz.ntmps17
 go_upto_region 1 with fail
 generalize (((w.alloc (.cells #[.slice ra n c, .slice ga m d, .bool single] 25)).alloc (.cells #[.slice sa k sc, .int .i64 V0] 31)).alloc (.cells #[.slice pa l pc] 34)) = w1 at *
 generalize hx3 : w.heap.size + 1 + 1 = b3 at *
 generalize hx2 : w.heap.size + 1 = b2 at *
 have hlb : w.heap.size < b2 ∧ b2 < b3 := by omega
 clear hx2 hx3
 have x0 := HBX0.out.1.cell 0
 have x1 := HBX0.out.1.cell 1
 have x2 := HBX0.out.1.cell 2
 have y0 := HBX0.out.2.1.cell 0
 have y1 := HBX0.out.2.1.cell 1
 simp only [List.getElem?_toArray, List.getElem?_cons_zero, List.getElem?_cons_succ] at x0 x1 x2 y0 y1
 go_wp2_with fail
 refine (legal_any ra ga sa n c m d k sc single V0 R G S w1 hn hm hk (HR.out.below hb0) (HG.out.below hb0) (HS.out.below hb0)).mono ?_
 rintro e w2 ⟨q, rfl, hb2, hq⟩
 have HBX := Lib.hid ((⟨HBX0.out.1.below hb2, HBX0.out.2.1.below hb2, HBX0.out.2.2.below hb2⟩ : _ ∧ _ ∧ _))
 have hbw : Below w.heap.size w w2 := hb0.trans (hb2.mono hb0.size)
 clear x0 x1 x2 y0 y1 HBX0 hb2 hb0
 have z0 := HBX.out.2.2.cell 0
 simp only [List.getElem?_toArray, List.getElem?_cons_zero] at z0
 cases q
 ·
  have HQ := Lib.hid hq
  clear hq
  go_wp2_with fail
  go_ret
  exact ⟨false, rfl, hbw, by simp; intro h; have := HQ.out.mpr h; simp at this⟩
 ·
  have HLEG := Lib.hid (hq.mp rfl)
  clear hq
  by_cases hl0 : l = 0
  ·
   have e1 : ((l : Int) == 0) = true := by simp; exact hl0
   have e1' : (l == 0) = true := by simp; exact hl0
   have HL := Lib.hid hl0
   clear hl0
   go_wp2_with fail
   go_ret
   exact ⟨false, rfl, hbw, by simp; intro _ h; have := HL.out; omega⟩
  ·
   have e1 : ((l : Int) == 0) = false := by simp; exact hl0
   have e1' : (l == 0) = false := by simp; exact hl0
   by_cases hl1 : 100000 < l
   ·
    have e2 : decide ((100000 : Int) < (l : Int)) = true := by simp; omega
    clear hl0
    go_wp2_with fail
    go_ret
    exact ⟨false, rfl, hbw, by simp; intro _ _ h; omega⟩
   ·
    have e2 : decide ((100000 : Int) < (l : Int)) = false := by simp; omega
    have HL0 : Hid (0 < l) := Nat.pos_of_ne_zero hl0
    have HW2 : Hid (w.heap.size < w2.drew.heap.size) := lt_of_block HBX.out.1
    clear hl0
    have p0 := HBX.out.1.cell 0
    have p1 := HBX.out.1.cell 1
    have p2 := HBX.out.1.cell 2
    have y1 := HBX.out.2.1.cell 1
    simp only [List.getElem?_toArray, List.getElem?_cons_zero, List.getElem?_cons_succ] at p0 p1 p2 y1
    obtain ⟨arr, hs, hz, hmk⟩ := make_seen l (by omega)
    have HMK := Lib.hid hmk
    have HROW0 : Hid (∀ W : World, BoolRow (W.alloc (.cells arr 4)) W.heap.size 4 (List.replicate l false)) := fun W => BoolRow.made rfl hs hz
    clear hs hz hmk
    obtain ⟨arr2, hs, hz, hmk⟩ := make_ints n hn
    have HMK2 := Lib.hid hmk
    have HROW2 : Hid (∀ W : World, IntRow (W.alloc (.cells arr2 3)) W.heap.size 3 (List.replicate n 0)) := fun W => IntRow.made rfl hs hz
    clear hs hz hmk
    have HVAL := Lib.hid (validS_parts HLEG.out.1).2.2
    have HARG : Hid (∀ w3 : World, Below w2.drew.heap.size w2.drew w3 → Ints w3 ra n R ∧ Pairs w3 ga m G) := fun w3 h3 =>
     ⟨HR.out.below (hbw.trans (((Below.refl w2.heap.size w2).drew.trans h3).mono hbw.size)), HG.out.below (hbw.trans (((Below.refl w2.heap.size w2).drew.trans h3).mono hbw.size))⟩
    go_upto_region 3 with fail
    refine wp_region_held_drew (S := fun w' => w'.cell? ⟨w.heap.size, 0, none⟩ = some (.slice ra n c) ∧ w'.cell? ⟨w.heap.size, 1, none⟩ = some (.slice ga m d) ∧ w'.cell? ⟨w.heap.size, 2, none⟩ = some (.bool single) ∧ w'.cell? ⟨b2, 1, none⟩ = some (.int .i64 V0) ∧ w'.cell? ⟨b3, 0, none⟩ = some (.slice pa l pc)) (by kernel_rfl) ⟨p0, p1, p2, y1, z0⟩ (fun hHeld => ?_)
    refine take_at (i := 0) (v := ?_) 24 rfl rfl (by kernel_rfl) (by kernel_rfl) (by kernel_rfl) (fun _ _ _ h => h) (Or.inl ⟨by rfl, ?_⟩) (by assumption) ?_
    rotate_left
    ·
     intro w hSw; go_simp <;> with_reducible rfl
    try simp only [Act.put, List.setIfInBounds_toArray, List.set_cons_zero, List.set_cons_succ]
    refine take_at (i := 1) (v := ?_) 25 rfl rfl (by kernel_rfl) (by kernel_rfl) (by kernel_rfl) (fun _ _ _ h => h) (Or.inl ⟨by rfl, ?_⟩) (by assumption) ?_
    rotate_left
    ·
     intro w hSw; go_simp <;> with_reducible rfl
    try simp only [Act.put, List.setIfInBounds_toArray, List.set_cons_zero, List.set_cons_succ]
    refine take_at (i := 2) (v := ?_) 26 rfl rfl (by kernel_rfl) (by kernel_rfl) (by kernel_rfl) (fun _ _ _ h => h) (Or.inl ⟨by rfl, ?_⟩) (by assumption) ?_
    rotate_left
    ·
     intro w hSw; go_simp <;> with_reducible rfl
    try simp only [Act.put, List.setIfInBounds_toArray, List.set_cons_zero, List.set_cons_succ]
    refine take_at (i := 3) (v := ?_) 27 rfl rfl (by kernel_rfl) (by kernel_rfl) (by kernel_rfl) (fun _ _ _ h => h) (Or.inl ⟨by rfl, ?_⟩) (by assumption) ?_
    rotate_left
    ·
     intro w hSw; go_simp <;> with_reducible rfl
    try simp only [Act.put, List.setIfInBounds_toArray, List.set_cons_zero, List.set_cons_succ]
    refine take_at (i := 4) (v := ?_) 28 rfl rfl (by kernel_rfl) (by kernel_rfl) (by kernel_rfl) (fun _ _ _ h => h) (Or.inl ⟨by rfl, ?_⟩) (by assumption) ?_
    rotate_left
    ·
     intro w hSw; go_simp <;> with_reducible rfl
    try simp only [Act.put, List.setIfInBounds_toArray, List.set_cons_zero, List.set_cons_succ]
    refine take_at (i := 5) (v := ?_) 29 rfl rfl (by kernel_rfl) (by kernel_rfl) (by kernel_rfl) (fun _ _ _ h => h) (Or.inl ⟨by rfl, ?_⟩) (by assumption) ?_
    rotate_left
    ·
     intro w hSw; go_simp <;> with_reducible rfl
    try simp only [Act.put, List.setIfInBounds_toArray, List.set_cons_zero, List.set_cons_succ]
    refine take_at (i := 6) (v := ?_) 30 rfl rfl (by kernel_rfl) (by kernel_rfl) (by kernel_rfl) (fun _ _ _ h => h) (Or.inl ⟨by rfl, ?_⟩) (by assumption) ?_
    rotate_left
    ·
     intro w hSw; go_simp <;> with_reducible rfl
    try simp only [Act.put, List.setIfInBounds_toArray, List.set_cons_zero, List.set_cons_succ]
    refine take_at (i := 7) (v := ?_) 31 rfl rfl (by kernel_rfl) (by kernel_rfl) (by kernel_rfl) (fun _ _ _ h => h) (Or.inl ⟨by rfl, ?_⟩) (by assumption) ?_
    rotate_left
    ·
     intro w hSw; go_simp <;> with_reducible rfl
    try simp only [Act.put, List.setIfInBounds_toArray, List.set_cons_zero, List.set_cons_succ]
    refine take_at (i := 9) (v := ?_) 33 rfl rfl (by kernel_rfl) (by kernel_rfl) (by kernel_rfl) (fun _ _ _ h => h) (Or.inl ⟨by rfl, ?_⟩) (by assumption) ?_
    rotate_left
    ·
     intro w hSw; go_simp <;> with_reducible rfl
    try simp only [Act.put, List.setIfInBounds_toArray, List.set_cons_zero, List.set_cons_succ]
    refine take_at (i := 10) (v := ?_) 34 rfl rfl (by kernel_rfl) (by kernel_rfl) (by kernel_rfl) (fun _ _ _ h => h) (Or.inl ⟨by rfl, ?_⟩) (by assumption) ?_
    rotate_left
    ·
     intro w hSw; go_simp <;> with_reducible rfl
    try simp only [Act.put, List.setIfInBounds_toArray, List.set_cons_zero, List.set_cons_succ]
    refine take_at (i := 13) (v := ?_) 37 rfl rfl (by kernel_rfl) (by kernel_rfl) (by kernel_rfl) (fun _ _ _ h => h) (Or.inl ⟨by rfl, ?_⟩) (by assumption) ?_
    rotate_left
    ·
     intro w hSw; go_simp <;> with_reducible rfl
    try simp only [Act.put, List.setIfInBounds_toArray, List.set_cons_zero, List.set_cons_succ]
    refine take_at (i := 14) (v := ?_) 38 rfl rfl (by kernel_rfl) (by kernel_rfl) (by kernel_rfl) (fun _ _ _ h => h) (Or.inl ⟨by rfl, ?_⟩) (by assumption) ?_
    rotate_left
    ·
     intro w hSw; go_simp <;> with_reducible rfl
    try simp only [Act.put, List.setIfInBounds_toArray, List.set_cons_zero, List.set_cons_succ]
    refine take_at (i := 16) (v := ?_) 40 rfl rfl (by kernel_rfl) (by kernel_rfl) (by kernel_rfl) (fun _ _ _ h => h) (Or.inl ⟨by rfl, ?_⟩) (by assumption) ?_
    rotate_left
    ·
     intro w hSw; go_simp <;> with_reducible rfl
    try simp only [Act.put, List.setIfInBounds_toArray, List.set_cons_zero, List.set_cons_succ]
    refine take_at (i := 17) (v := ?_) 41 rfl rfl (by kernel_rfl) (by kernel_rfl) (by kernel_rfl) (fun _ _ _ h => h) (Or.inl ⟨by rfl, ?_⟩) (by assumption) ?_
    rotate_left
    ·
     intro w hSw; go_simp <;> with_reducible rfl
    try simp only [Act.put, List.setIfInBounds_toArray, List.set_cons_zero, List.set_cons_succ]
    refine take_at (i := 18) (v := ?_) 42 rfl rfl (by kernel_rfl) (by kernel_rfl) (by kernel_rfl) (fun _ _ _ h => h) (Or.inl ⟨by rfl, ?_⟩) (by assumption) ?_
    rotate_left
    ·
     intro w hSw; go_simp <;> with_reducible rfl
    try simp only [Act.put, List.setIfInBounds_toArray, List.set_cons_zero, List.set_cons_succ]
    clear p0 p1 p2 y1 z0
    refine wpAnyH_effects0 [(8, 32), (11, 35), (12, 36), (15, 39), (19, 43)] [[], [], [], [1], []] (FE n m l R G) (bkE n) _ _ 3 _ ?dist ?ready FE.below hHeld ?step ?fin
    case dist => decide
    case ready => kernel_rfl
    case step =>
     intro k e v w3 hk3 he hSw hbw3 _
     rcases k with _ | _ | _ | _ | _ | k
     all_goals simp only [List.getElem?_cons_zero, List.getElem?_cons_succ, List.getElem?_nil, Option.some.injEq, reduceCtorEq] at he
     all_goals subst he
     ·
      have hmk := HMK.out
      refine wpOp_step rfl (fun K' hK => ?_)
      simp only [putAll, Act.put, List.setIfInBounds_toArray, List.set_cons_zero, List.set_cons_succ]
      go_simp
      have hb4 : Below w3.heap.size w3 (w3.alloc (.cells arr 4)) := (Below.refl _ _).alloc (Nat.le_refl _) _
      exact hK _ _ ⟨.slice (some ⟨w3.heap.size, 0, none⟩) l l, by simp only [putAll, Act.put, List.setIfInBounds_toArray, List.set_cons_zero, List.set_cons_succ], keep5 hb4 hSw, hb4, ⟨_, rfl, HROW0.out w3⟩, blk_slice (Nat.le_refl _) (alloc_lt _ _)⟩
     ·
      refine wpOp_step rfl (fun K' hK => ?_)
      simp only [putAll, Act.put, List.setIfInBounds_toArray, List.set_cons_zero, List.set_cons_succ]
      go_simp
      refine (ranked_own ga m d G w3 hm (HARG.out w3 hbw3).2 HVAL.out).mono ?_
      rintro e w4 ⟨rfl, hb4, hr4⟩
      go_simp
      exact hK _ _ ⟨.slice (some ⟨w3.heap.size + 1, 0, none⟩) m m, by simp only [putAll, Act.put, List.setIfInBounds_toArray, List.set_cons_zero, List.set_cons_succ], keep5 hb4 hSw, hb4, ⟨_, rfl, hr4⟩, blk_slice (Nat.le_succ _) hr4.lt⟩
     ·
      have hmm := @run_makeMap Tryz.prog
      refine wpOp_step rfl (fun K' hK => ?_)
      simp only [putAll, Act.put, List.setIfInBounds_toArray, List.set_cons_zero, List.set_cons_succ]
      go_simp
      have hb4 : Below w3.heap.size w3 (w3.alloc (.map #[] 0)) := (Below.refl _ _).alloc (Nat.le_refl _) _
      exact hK _ _ ⟨.map (some w3.heap.size), by simp only [putAll, Act.put, List.setIfInBounds_toArray, List.set_cons_zero, List.set_cons_succ], keep5 hb4 hSw, hb4, ⟨_, rfl, IMap.made⟩, blk_map (Nat.le_refl _) (alloc_lt _ _)⟩
     ·
      refine wpOp_step rfl (fun K' hK => ?_)
      simp only [putAll, Act.put, List.setIfInBounds_toArray, List.set_cons_zero, List.set_cons_succ]
      go_simp
      refine (clone_any ra n c R w3 hn (HARG.out w3 hbw3).1 HC.out).mono ?_
      rintro e w4 ⟨la, c', rfl, hb4, hr4⟩
      go_simp
      exact hK _ _ ⟨.slice la n c', by simp only [putAll, Act.put, List.setIfInBounds_toArray, List.set_cons_zero, List.set_cons_succ], keep5 hb4 hSw, hb4, ⟨_, _, rfl, fun h0 => by obtain ⟨b, e, _, r⟩ := hr4.2 h0; exact ⟨b, e, r⟩⟩, blk_own hr4⟩
     ·
      have hmk := HMK2.out
      refine wpOp_step rfl (fun K' hK => ?_)
      simp only [putAll, Act.put, List.setIfInBounds_toArray, List.set_cons_zero, List.set_cons_succ]
      go_simp
      have hb4 : Below w3.heap.size w3 (w3.alloc (.cells arr2 3)) := (Below.refl _ _).alloc (Nat.le_refl _) _
      exact hK _ _ ⟨.slice (some ⟨w3.heap.size, 0, none⟩) n n, by simp only [putAll, Act.put, List.setIfInBounds_toArray, List.set_cons_zero, List.set_cons_succ], keep5 hb4 hSw, hb4, ⟨_, rfl, HROW2.out w3⟩, blk_slice (Nat.le_refl _) (alloc_lt _ _)⟩
    case fin =>
     intro v w4 hS4 hI
     obtain ⟨sb, f0, F0⟩ : FE n m l R G 0 (v 0) w4 := hI.fact 0 (by decide) rfl
     obtain ⟨ob, f1, F1⟩ : FE n m l R G 1 (v 1) w4 := hI.fact 1 (by decide) rfl
     obtain ⟨mb, f2, F2⟩ : FE n m l R G 2 (v 2) w4 := hI.fact 2 (by decide) rfl
     obtain ⟨la, lc, f3, F3⟩ : FE n m l R G 3 (v 3) w4 := hI.fact 3 (by decide) rfl
     obtain ⟨ub, f4, F4⟩ : FE n m l R G 4 (v 4) w4 := hI.fact 4 (by decide) rfl
     simp only [putAll, Act.put, List.setIfInBounds_toArray, List.set_cons_zero, List.set_cons_succ, Nat.zero_add, Nat.reduceAdd, f0, f1, f2, f3, f4]
     have HMADE := Lib.hid (made_of hI f0 f1 f2 f3 f4 F0 F1 F2 F3 F4)
     have HB4 := Lib.hid (hbw.trans (((Below.refl w2.heap.size w2).drew.trans hI.below).mono hbw.size))
     clear f0 f1 f2 f3 f4 F0 F1 F2 F3 F4 hI HMK HMK2 HROW0 HROW2 hHeld
     refine take_at (i := 20) (v := ?_) 44 rfl rfl (by kernel_rfl) (by kernel_rfl) (by kernel_rfl) (fun _ _ _ h => h) (Or.inl ⟨by rfl, ?_⟩) (by assumption) ?_
     rotate_left
     ·
      intro w hSw; go_simp <;> with_reducible rfl
     try simp only [Act.put, List.setIfInBounds_toArray, List.set_cons_zero, List.set_cons_succ]
     refine wpAnyH_ready (rs := [21]) (by kernel_rfl) (by simp) ?_
     refine AllReadyH.cons rfl (fun K' hK => ?_) AllReadyH.nil
     go_simp
     have hb5 : Below w4.heap.size w4 (w4.alloc (.cells #[.slice ra n c, .slice ga m d, .bool single, .int .i64 V0, .slice pa l pc, .slice (some ⟨sb, 0, none⟩) l l, .slice (some ⟨ob, 0, none⟩) m m, .map (some mb),
      .slice la n lc, .slice (some ⟨ub, 0, none⟩) n n, .int .i64 0, .map none] 83)) := (Below.refl _ _).alloc (Nat.le_refl _) _
     have HBOX5 : Hid (Box (w4.alloc (.cells #[.slice ra n c, .slice ga m d, .bool single, .int .i64 V0, .slice pa l pc, .slice (some ⟨sb, 0, none⟩) l l, .slice (some ⟨ob, 0, none⟩) m m, .map (some mb),
      .slice la n lc, .slice (some ⟨ub, 0, none⟩) n n, .int .i64 0, .map none] 83)) w4.heap.size 83 _) := Box.new rfl
     have hz5 : w4.heap.size < (w4.alloc (.cells #[.slice ra n c, .slice ga m d, .bool single, .int .i64 V0, .slice pa l pc, .slice (some ⟨sb, 0, none⟩) l l, .slice (some ⟨ob, 0, none⟩) m m, .map (some mb),
      .slice la n lc, .slice (some ⟨ub, 0, none⟩) n n, .int .i64 0, .map none] 83)).heap.size := alloc_lt _ _
     generalize (w4.alloc (.cells #[.slice ra n c, .slice ga m d, .bool single, .int .i64 V0, .slice pa l pc, .slice (some ⟨sb, 0, none⟩) l l, .slice (some ⟨ob, 0, none⟩) m m, .map (some mb),
      .slice la n lc, .slice (some ⟨ub, 0, none⟩) n n, .int .i64 0, .map none] 83)) = w5 at *
     refine hK.out _ _ (keep5 hb5 hS4) (fun hHeld => ?_)
     clear hK K'
     refine take_at (i := 22) (v := ?_) 7 rfl rfl (by kernel_rfl) (by kernel_rfl) (by kernel_rfl) (fun _ _ _ h => h) (Or.inl ⟨by rfl, ?_⟩) (by assumption) ?_
     rotate_left
     ·
      intro w hSw; go_simp <;> with_reducible rfl
     try simp only [Act.put, List.setIfInBounds_toArray, List.set_cons_zero, List.set_cons_succ]
     refine wpAnyH_done (by kernel_rfl) ?_ _
     clear hHeld hS4
     obtain ⟨wA, wB, wC, hA, hB, hC, hK6, hb6, hz6⟩ := kinds_run w5 w4.heap.size
     unfold kfun at hA hB hC
     have hmm := @run_makeMap Tryz.prog
     have HK6 := Lib.hid hK6; have HB6 := Lib.hid hb6; have HZ6 := Lib.hid hz6; have HB5 := Lib.hid hb5; have HZ5 := Lib.hid hz5
     clear hK6 hb6 hz6 hb5 hz5
     have g11 := (HBOX5.out.below HB6.out).cell 11
     have gf := (HBOX5.out.below HB6.out).free 11
     simp only [List.getElem?_toArray, List.getElem?_cons_zero, List.getElem?_cons_succ] at g11
     have HRIGHT := Lib.hid (start_any hn hm (Nat.not_lt.mp hl1) HL0.out HR.out HG.out HT.out HLEG.out.1 HW2.out HB4.out HMADE.out (HB5.out.trans (HB6.out.mono HB5.out.size)) HK6.out HZ5.out (HBOX5.out.below HB6.out))
     go_upto_region 5 with fail
     clear g11 gf hmm hA hB hC
     go_upto_region 6 with ((go_at_call 38; refine HRIGHT.out.mono ?_; rintro e w7 ⟨rfl, hb7⟩))
     go_ret
     exact ⟨checkS single R G V0 T, rfl, hb7, ⟨fun h => ⟨HLEG.out, HL0.out, Nat.not_lt.mp hl1, h⟩, fun h => h.2.2.2⟩⟩
end Go.Proofs.YthabgljdndbphaaGreatDoor
