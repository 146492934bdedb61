/- hall: Build: plain: what a plan without single faults is like; hall: several: plain lemmas; what stays while it runs; hall: several: what stays while it runs, row by row. -/
import Derived.Test.YtmcdhggnpfhlmaaGreatQHMR18
import Derived.Test.YtmcdhggnpfhlmaaGreatQHMR20

set_option linter.unusedVariables false
set_option linter.unusedSimpArgs false
namespace Go.Proofs.YtmcdhggnpfhlmaaGreat
open Go.RowKit Go.IntWalk
set_option linter.unusedSimpArgs false
set_option linter.unusedVariables false

theorem coordB_iff {n : Int} : coordB n = true ↔ 0 ≤ n ∧ n ≤ 10000 := by
 unfold coordB
 simp

theorem rowFault_nil {rows : List RowR} {k : Nat} {r : RowR} (h : rowFault rows k r = []) : RowOk r ∧ marksS r = 0 := by
 unfold rowFault at h
 dsimp only at h
 split at h
 ·
  cases h
 split at h
 ·
  cases h
 rename_i h1 h2
 split at h
 ·
  cases h
 rename_i h3
 split at h
 ·
  cases h
 rename_i h4
 split at h
 ·
  rename_i h5
  simp only [not_or, Classical.not_not, coordB_iff] at h2
  obtain ⟨a1, a2, a3, a4, a5, a6⟩ := h2
  refine ⟨⟨by omega, by omega, by omega, by omega, a5, a6, fun hf => ?_, by omega⟩, h5⟩
  have : ¬ (10000 < r.step ∨ ¬ coordB (r.x + (r.to - r.fr) * r.step) = true) := fun e => h3 ⟨hf, e⟩
  simp only [not_or, Classical.not_not, coordB_iff] at this
  exact ⟨by omega, this.2.2⟩
 ·
  cases h

theorem marks_nil {r : RowR} (h : marksS r = 0) : (∀ m ∈ r.marks, r.fr ≤ m.seat ∧ m.seat ≤ r.to) ∧ (r.marks.map (·.seat)).Nodup ∧ ∀ m ∈ r.marks, m.kind = 4 → wheelB r.marks m.wth = true := by
 unfold marksS at h
 split at h
 ·
  cases h
 split at h
 ·
  cases h
 rename_i h1 h2
 split at h
 ·
  cases h
 rename_i h3
 split at h
 ·
  cases h
 rename_i h4
 simp only [List.any_eq_true, Bool.or_eq_true, decide_eq_true_eq, not_exists, not_and, not_or] at h2
 simp only [Bool.not_eq_true', decide_eq_false_iff_not, Classical.not_not] at h3
 simp only [List.any_eq_true, Bool.and_eq_true, decide_eq_true_eq, Bool.not_eq_true', not_exists, not_and] at h4
 refine ⟨fun m hm => by have := h2 m hm; omega, h3, fun m hm hk => ?_⟩
 have := h4 m hm hk
 simpa using this

theorem find_seat : ∀ {ms : List MarkR}, (ms.map (·.seat)).Nodup → ∀ {m : MarkR}, m ∈ ms → (ms.find? fun x => decide (x.seat = m.seat)) = some m
 | [], _, m, h => by cases h
 | y :: ms, hn, m, h => by
  rw [List.map_cons, List.nodup_cons] at hn
  rw [List.find?_cons]
  rcases List.mem_cons.1 h with rfl | h
  ·
   simp
  ·
   have hne : y.seat ≠ m.seat := fun e => hn.1 (by rw [e]; exact List.mem_map_of_mem h)
   simp only [hne, decide_false]
   exact find_seat hn.2 h

theorem mem_seats {r : RowR} (hok : RowOk r) {s : Int} (h1 : r.fr ≤ s) (h2 : s ≤ r.to) (hk : (markS r.marks s).kind ≠ 1) : ∃ (b : Nat) (hb : b < (seatsS r).length), (seatsS r)[b].1 = s := by
 have : (s, r.x + ((s - r.fr).toNat : Int) * r.step) ∈ seatsS r := by
  unfold seatsS
  refine List.mem_filter.2 ⟨List.mem_map.2 ⟨(s - r.fr).toNat, ?_, ?_⟩, by simpa using hk⟩
  ·
   rw [List.mem_range]
   unfold spanS
   omega
  ·
   have : ((s - r.fr).toNat : Int) = s - r.fr := Int.toNat_of_nonneg (by omega)
   rw [this]
   exact Prod.ext (by show r.fr + (s - r.fr) = s; omega) rfl
 obtain ⟨b, hb, e⟩ := List.mem_iff_getElem.1 this
 exact ⟨b, hb, by rw [e]⟩

theorem wheels_of {r : RowR} (hok : RowOk r) (hm : marksS r = 0) : Wheels r := by
 obtain ⟨h1, h2, h3⟩ := marks_nil hm
 intro a ha hk
 have hs : ∃ m ∈ r.marks, markS r.marks (seatsS r)[a].1 = m ∧ m.kind = 4 := by
  unfold markS at hk ⊢
  cases hf : r.marks.find? fun m => decide (m.seat = (seatsS r)[a].1) with
  | none =>
   rw [hf] at hk
   cases hk
  | some m =>
   rw [hf] at hk
   exact ⟨m, List.mem_of_find?_eq_some hf, rfl, hk⟩
 obtain ⟨m, hmm, e, hk4⟩ := hs
 rw [e]
 have hw := h3 m hmm hk4
 unfold wheelB at hw
 obtain ⟨m2, hm2, he⟩ := List.any_eq_true.1 hw
 simp only [Bool.and_eq_true, decide_eq_true_eq] at he
 have hf := find_seat h2 hm2
 have e2 : markS r.marks m.wth = m2 := by
  unfold markS
  rw [← he.1, hf]
  rfl
 obtain ⟨r1, r2⟩ := h1 m2 hm2
 obtain ⟨b, hb, hbe⟩ := mem_seats hok (s := m.wth) (by omega) (by omega) (by rw [e2]; omega)
 exact ⟨b, hb, hbe.symm, by rw [hbe, e2]; exact he.2⟩

theorem areaFault_nil {l : LevR} {i : Nat} {a : AreaR} (h : areaFault l i a = []) : boxB a.box = true ∧ 1 ≤ a.holds ∧ a.holds ≤ 4000 := by
 unfold areaFault at h
 dsimp only at h
 split at h
 ·
  cases h
 split at h
 ·
  cases h
 split at h
 ·
  cases h
 rename_i h1
 simp only [not_or, Classical.not_not] at h1
 exact ⟨h1.1, by omega, by omega⟩

theorem flat_nil {α : Type} {β : Type} {xs : List α} {f : α → List β} (h : xs.flatMap f = []) {x : α} (hx : x ∈ xs) : f x = [] := List.flatMap_eq_nil_iff.1 h x hx

theorem zip_mem {α : Type} {xs : List α} {x : α} (h : x ∈ xs) : ∃ i, (x, i) ∈ xs.zipIdx := by
 obtain ⟨i, hi, rfl⟩ := List.mem_iff_getElem.1 h
 exact ⟨i, List.mem_iff_getElem.2 ⟨i, by simpa using hi, by simp⟩⟩

structure NoSingle (h : HallR) : Prop where
 rows : ∀ l ∈ h.levels, ∀ b ∈ l.blocks, ∀ r ∈ b.rows, RowOk r ∧ Wheels r
 areas : ∀ l ∈ h.levels, ∀ a ∈ l.areas, boxB a.box = true ∧ 1 ≤ a.holds ∧ a.holds ≤ 4000

theorem noSingle {h : HallR} (hs : singleS h = []) : NoSingle h := by
 unfold singleS at hs
 refine ⟨fun l hl b hb r hr => ?_, fun l hl a ha => ?_⟩
 ·
  obtain ⟨n, hn⟩ := zip_mem hl
  have h1 := flat_nil hs hn
  dsimp only at h1
  have h2 := (List.append_eq_nil_iff.1 (List.append_eq_nil_iff.1 h1).1).2
  obtain ⟨i, hi⟩ := zip_mem hb
  have h3 := flat_nil h2 hi
  dsimp only at h3
  have h4 := (List.append_eq_nil_iff.1 h3).2
  obtain ⟨k, hk⟩ := zip_mem hr
  have h5 := flat_nil h4 hk
  obtain ⟨q1, q2⟩ := rowFault_nil h5
  exact ⟨q1, wheels_of q1 q2⟩
 ·
  obtain ⟨n, hn⟩ := zip_mem hl
  have h1 := flat_nil hs hn
  dsimp only at h1
  have h2 := (List.append_eq_nil_iff.1 h1).2
  obtain ⟨i, hi⟩ := zip_mem ha
  exact areaFault_nil (flat_nil h2 hi)

/-! ### How many places -/
theorem fold_len {α : Type} (f : List PlaceR → α × Nat → List PlaceR) (c : α → Int) : ∀ (xs : List α), (∀ o x i, x ∈ xs → ((f o (x, i)).length : Int) = o.length + c x) → ∀ (k : Nat) (out : List PlaceR), (((xs.zipIdx k).foldl f out).length : Int) = out.length + (xs.map c).sum
 | [], _, k, out => by simp
 | x :: xs, hf, k, out => by
  rw [List.zipIdx_cons, List.foldl_cons, fold_len f c xs (fun o y i hy => hf o y i (List.mem_cons_of_mem _ hy)), hf _ _ _ (List.mem_cons_self ..), List.map_cons, List.sum_cons]
  omega
def rowsC (b : BlkR) : Int := (b.rows.map fun r => ((seatsS r).length : Int)).sum
def levC (l : LevR) : Int := (l.blocks.map rowsC).sum + (l.areas.map (·.holds)).sum
theorem count_eq (h : HallR) : countS h = (h.levels.map levC).sum := rfl
theorem places_len {h : HallR} (hs : NoSingle h) : ((placesS h).length : Int) = countS h := by
 rw [count_eq]
 unfold placesS
 rw [fold_len (putLevel h) levC h.levels (fun o l n hl => ?_) 0 []]
 ·
  simp
 unfold putLevel levC
 dsimp only
 rw [fold_len (putArea h l n) (·.holds) l.areas (fun o a i ha => ?_) 0, fold_len (putBlk h l n) rowsC l.blocks (fun o b i hb => ?_) 0]
 ·
  omega
 ·
  unfold putBlk rowsC
  dsimp only
  rw [fold_len (putRow h l n i) (fun r => ((seatsS r).length : Int)) b.rows (fun o r k hr => ?_) 0]
  unfold putRow rowPlaces
  simp
 ·
  unfold putArea
  dsimp only
  rw [List.length_append, areaPlaces_len]
  have := (hs.areas l hl a ha).2.1
  omega

theorem planOk_of {h : HallR} (hs : singleS h = []) (hc : countS h ≤ 4000) (hsm : h.Sm) (hb : ∀ l ∈ h.levels, l.bn = l.blocks.length) : PlanOk h := by
 have hn := noSingle hs
 refine ⟨hn.rows, fun l hl a ha => ?_, by have := hsm.ln; omega, fun l hl => ?_, ?_⟩
 ·
  obtain ⟨h1, h2, h3⟩ := hn.areas l hl a ha
  unfold boxB at h1
  simp only [Bool.and_eq_true, coordB_iff, decide_eq_true_eq] at h1
  omega
 ·
  have h1 := hsm.lev l hl
  have h2 := h1.rest
  have h3 := h1.b
  exact ⟨by omega, by omega, by omega, fun b hb => by have := hsm.rn l hl b hb; omega⟩
 ·
  have := places_len hn
  omega
end Go.Proofs.YtmcdhggnpfhlmaaGreat

namespace Go.Proofs.YtmcdhggnpfhlmaaGreat
open Go.RowKit Go.IntWalk Go.Maps Go.WideMaps
set_option linter.unusedSimpArgs false
set_option linter.unusedVariables false

/-! ### Faults, row by row -/
def sevF (re : List Bool) (l : LevR) (rows : List RowR) : List FaultR := rows.zipIdx.flatMap fun (r, k) => rowFaults re l (rows.take k) r
theorem sevF_next (re : List Bool) (l : LevR) (rows : List RowR) (r : RowR) : sevF re l (rows ++ [r]) = sevF re l rows ++ rowFaults re l rows r := by
 unfold sevF
 rw [List.zipIdx_append, List.flatMap_append]
 congr 1
 ·
  rw [List.flatMap_def, List.flatMap_def]
  refine congrArg List.flatten (List.map_congr_left fun x hx => ?_)
  obtain ⟨r', k⟩ := x
  have hk : k < rows.length := by
   have := List.snd_lt_of_mem_zipIdx hx
   simpa using this
  show rowFaults re l ((rows ++ [r]).take k) r' = rowFaults re l (rows.take k) r'
  rw [List.take_append_of_le_length (by omega)]
 ·
  simp
def arF (re : List Bool) (l : LevR) (i : Nat) : List FaultR := ((l.areas.zipIdx).take i).flatMap fun (a, i) => areaFaults re l (l.areas.take i) a
theorem arF_next (re : List Bool) (l : LevR) {i : Nat} (h : i < l.areas.length) : arF re l (i + 1) = arF re l i ++ areaFaults re l (l.areas.take i) l.areas[i] := by
 unfold arF
 rw [List.take_succ_eq_append_getElem (by simpa using h), List.flatMap_append]
 simp
theorem several_eq (re : List Bool) (l : LevR) : severalR re l = sevF re l (allRows l) ++ arF re l l.areas.length := by
 unfold severalR sevF arF
 rw [List.take_of_length_le (by simp)]
/-- The rows of the first blocks. -/
def rowsB (l : LevR) (i : Nat) : List RowR := (l.blocks.take i).flatMap (·.rows)
theorem rowsB_next (l : LevR) {i : Nat} (h : i < l.blocks.length) : rowsB l (i + 1) = rowsB l i ++ l.blocks[i].rows := by
 unfold rowsB
 rw [List.take_succ_eq_append_getElem h, List.flatMap_append]
 simp
theorem rowsB_all (l : LevR) : rowsB l l.blocks.length = allRows l := by
 unfold rowsB allRows
 rw [List.take_length]
theorem rowsB_len {l : LevR} {n : Nat} (h : ∀ b ∈ l.blocks, b.rows.length ≤ n) : ∀ i, (rowsB l i).length ≤ i * n
 | 0 => by simp [rowsB]
 | i + 1 => by
  by_cases hi : i < l.blocks.length
  ·
   rw [rowsB_next l hi, List.length_append, Nat.succ_mul]
   have := rowsB_len h i
   have := h _ (List.getElem_mem hi)
   omega
  ·
   have : rowsB l (i + 1) = rowsB l i := by
    unfold rowsB
    rw [List.take_of_length_le (by omega), List.take_of_length_le (by omega)]
   rw [this, Nat.succ_mul]
   have := rowsB_len h i
   omega
theorem filter_len_le {α : Type} (p : α → Bool) (l : List α) : (l.filter p).length ≤ l.length := List.length_filter_le p l
theorem rowFaults_len (re : List Bool) (l : LevR) (rows : List RowR) (r : RowR) : (rowFaults re l rows r).length ≤ rows.length + 2 := by
 unfold rowFaults
 have := filter_len_le (fun x => shareB r x) rows
 simp only [List.length_append, List.length_map]
 have h1 : (if blockedB l r = true then [(⟨13, r.at', -1⟩ : FaultR)] else []).length ≤ 1 := by split <;> simp
 have h2 : (if besideB re l r = true then [] else [(⟨14, r.at', -1⟩ : FaultR)]).length ≤ 1 := by split <;> simp
 omega
theorem sevF_len (re : List Bool) (l : LevR) {rows : List RowR} (h : rows.length ≤ 100) : (sevF re l rows).length ≤ rows.length * 102 := by
 unfold sevF
 suffices hh : ∀ (xs : List (RowR × Nat)), (xs.flatMap fun x : RowR × Nat => rowFaults re l (rows.take x.2) x.1).length ≤ xs.length * 102 by
  have := hh rows.zipIdx
  rw [List.length_zipIdx] at this
  exact this
 intro xs
 induction xs with
 | nil => simp
 | cons x xs ih =>
  rw [List.flatMap_cons, List.length_append, List.length_cons, Nat.succ_mul]
  have := rowFaults_len re l (rows.take x.2) x.1
  rw [List.length_take] at this
  omega
theorem areaFaults_len (re : List Bool) (l : LevR) (bf : List AreaR) (a : AreaR) : (areaFaults re l bf a).length ≤ (allRows l).length + bf.length + 1 := by
 unfold areaFaults
 have := filter_len_le (fun r => inAreaB a r) (allRows l)
 have := filter_len_le (fun b : AreaR => meetB a.box b.box) bf
 simp only [List.length_append, List.length_map]
 have h2 : (if openB re l (fun b => meetB a.box b) = true then [] else [(⟨14, a.at', -1⟩ : FaultR)]).length ≤ 1 := by split <;> simp
 omega
theorem arF_len (re : List Bool) (l : LevR) (h1 : (allRows l).length ≤ 100) (h2 : l.areas.length ≤ 100) : ∀ i, (arF re l i).length ≤ i * 201
 | 0 => by simp [arF]
 | i + 1 => by
  by_cases hi : i < l.areas.length
  ·
   rw [arF_next re l hi, List.length_append, Nat.succ_mul]
   have := arF_len re l h1 h2 i
   have := areaFaults_len re l (l.areas.take i) l.areas[i]
   rw [List.length_take] at this
   omega
  ·
   have : arF re l (i + 1) = arF re l i := by
    unfold arF
    rw [List.take_of_length_le (by simp; omega), List.take_of_length_le (by simp; omega)]
   rw [this, Nat.succ_mul]
   have := arF_len re l h1 h2 i
   omega

theorem wrap_shift (y : Int) : ∃ q : Int, IntKind.i64.wrap y = y + q * 18446744073709551616 := by
 show ∃ q : Int, (if (true && decide (y % 18446744073709551616 ≥ 9223372036854775808)) = true then y % 18446744073709551616 - 18446744073709551616 else y % 18446744073709551616) = _
 split
 ·
  exact ⟨-(y / 18446744073709551616) - 1, by omega⟩
 ·
  exact ⟨-(y / 18446744073709551616), by omega⟩
theorem wrap_period (x q : Int) : IntKind.i64.wrap (x + q * 18446744073709551616) = IntKind.i64.wrap x := by
 show (if (true && decide ((x + q * 18446744073709551616) % 18446744073709551616 ≥ 9223372036854775808)) = true then (x + q * 18446744073709551616) % 18446744073709551616 - 18446744073709551616 else (x + q * 18446744073709551616) % 18446744073709551616) = (if (true && decide (x % 18446744073709551616 ≥ 9223372036854775808)) = true then x % 18446744073709551616 - 18446744073709551616 else x % 18446744073709551616)
 rw [Int.add_mul_emod_self_right]
theorem wrap_right (x y : Int) : IntKind.i64.wrap (x + IntKind.i64.wrap y) = IntKind.i64.wrap (x + y) := by
 obtain ⟨q, hq⟩ := wrap_shift y
 rw [hq, ← Int.add_assoc, wrap_period]

/-! ### What stays -/
structure SevE (w0 : World) (h : HallR) (g : Nat) (l : LevR) (gl gv gk gR : Nat) (w : World) (L : List FaultR) (rows : List RowR) : Prop where
 chk : Chk w0 h g w L
 base : w0.heap.size ≤ gR
 lev : LevIn w gl l
 rv : w.heap[gv]? = some (.cells #[.slice (some ⟨gk, 0, none⟩) l.sn l.sn] 39 (0, 0))
 rk : BoolRow w gk 4 (reachS l.aisles l.doors)
 row : ∃ v, w.heap[gR]? = some (.cells #[v] 50 (0, 0)) ∧ w.ownsRow w0.heap.size 49 8 v rows.length (flat RowE rows)

section
variable {w0 w w' : World} {h : HallR} {l : LevR} {g gl gv gk gR : Nat} {L L' : List FaultR} {rows : List RowR}

theorem Chk.kupd {S : Nat → Obj → Prop} (hc : Chk w0 h g w L) (hb : Below w0.heap.size w0 w') (hu : KUpd S w w') (h1 : ∀ b arr x, w.heap[b]? = some (.cells arr 55 x) → ¬ S b (.cells arr 55 x)) (h2 : ∀ b arr x, w.heap[b]? = some (.cells arr 64 x) → ¬ S b (.cells arr 64 x)) : Chk w0 h g w' L := by
 obtain ⟨v, hg, ho⟩ := hc.row
 refine ⟨hb, hc.base, v, hu.block _ _ hg (h2 _ _ _ hg), row_of_heap ho fun r hr => ?_⟩
 obtain ⟨cur, hh⟩ := own_type ho hr
 rw [hh]
 exact hu.block _ _ hh (h1 _ _ _ hh)

theorem SevE.kupd {S : Nat → Obj → Prop} (he : SevE w0 h g l gl gv gk gR w L rows) (hb : Below w0.heap.size w0 w') (hu : KUpd S w w')
  (hS : ∀ b arr T x, w.heap[b]? = some (.cells arr T x) → S b (.cells arr T x) → b ≠ gk ∧ T ≠ 55 ∧ T ≠ 64 ∧ T ≠ 32 ∧ T ≠ 39 ∧ T ≠ 50 ∧ T ≠ 49) : SevE w0 h g l gl gv gk gR w' L rows := by
 obtain ⟨v, hv, ho⟩ := he.row
 refine ⟨he.chk.kupd hb hu (fun b arr x hb hs => (hS _ _ _ _ hb hs).2.1 rfl) (fun b arr x hb hs => (hS _ _ _ _ hb hs).2.2.1 rfl), he.base, hu.block _ _ he.lev (fun hs => (hS _ _ _ _ he.lev hs).2.2.2.1 rfl), hu.block _ _ he.rv (fun hs => (hS _ _ _ _ he.rv hs).2.2.2.2.1 rfl), ?_, v, hu.block _ _ hv (fun hs => (hS _ _ _ _ hv hs).2.2.2.2.2.1 rfl), row_of_heap ho fun r hr => ?_⟩
 ·
  obtain ⟨arr, ha, hx⟩ := he.rk
  refine he.rk.of_heap ?_
  rw [ha]
  exact hu.block _ _ ha (fun hs => (hS _ _ _ _ ha hs).1 rfl)
 ·
  obtain ⟨cur, hh⟩ := own_type ho hr
  rw [hh]
  exact hu.block _ _ hh (fun hs => (hS _ _ _ _ hh hs).2.2.2.2.2.2 rfl)
theorem SevE.down (he : SevE w0 h g l gl gv gk gR w L rows) (hb : Below w.heap.size w w') : SevE w0 h g l gl gv gk gR w' L rows :=
 he.kupd (S := fun _ _ => False) (he.chk.below.trans (hb.mono he.chk.below.size)) (KUpd.of_below hb) (fun _ _ _ _ _ hf => hf.elim)
theorem SevE.add (he : SevE w0 h g l gl gv gk gR w L rows) (hc : Chk w0 h g w' L') (ht : TUpd ChkT w w') : SevE w0 h g l gl gv gk gR w' L' rows := by
 obtain ⟨v, hv, ho⟩ := he.row
 obtain ⟨arr, ha, hx⟩ := he.rk
 refine ⟨hc, he.base, ht.keep he.lev chk_lev, ht.keep he.rv (by unfold ChkT; decide), he.rk.of_heap (by rw [ha]; exact ht.keep ha (by unfold ChkT; decide)), v, ht.keep hv (by unfold ChkT; decide), row_of_heap ho fun r hr => ?_⟩
 obtain ⟨cur, hh⟩ := own_type ho hr
 rw [hh]
 exact ht.keep hh (by unfold ChkT; decide)

/-- What several changes of what was there at its start (B: how many blocks there were). -/
def SvT (B : Nat) (b : Nat) (o : Obj) : Prop := B ≤ b ∨ ∃ arr T x, o = .cells arr T x ∧ (ChkT T ∨ T = 3 ∨ T = 97 ∨ T = 49 ∨ T = 50)
theorem SvT.of_tupd {B : Nat} (ht : TUpd ChkT w w') : KUpd (SvT B) w w' := KUpd.of_tupd ht fun b arr t x h => Or.inr ⟨arr, t, x, rfl, Or.inl h⟩
theorem SvT.of_sev {B gB M : Nat} (hg : B ≤ gB) (hM : B ≤ M) (hk : KUpd (SevT gB M) w w') : KUpd (SvT B) w w' := hk.wide fun b o hs => by
 rcases hs with rfl | rfl | ⟨arr, T, x, e, h⟩
 ·
  exact Or.inl hg
 ·
  exact Or.inl hM
 ·
  exact Or.inr ⟨arr, T, x, e, Or.inr (h.elim Or.inl fun h => Or.inr (Or.inl h))⟩
end
end Go.Proofs.YtmcdhggnpfhlmaaGreat

namespace Go.Proofs.YtmcdhggnpfhlmaaGreat
open Go.RowKit Go.IntWalk Go.Maps Go.WideMaps
set_option linter.unusedSimpArgs false
set_option linter.unusedVariables false

structure SevM (w0 wb : World) (h : HallR) (g : Nat) (l : LevR) (gl gv gk gR gM M : Nat) (w : World) (L : List FaultR) (rows rowsT : List RowR) : Prop where
 env : SevE w0 h g l gl gv gk gR w L rows
 mv : w.heap[gM]? = some (.cells #[.map (some M)] 101 (0, 0))
 tak : ∃ N f, N ≤ 60 * rowsT.length ∧ TakenF w w0.heap.size M N f (gAt rowsT)
 upd : KUpd (SvT wb.heap.size) wb w
 b1 : w0.heap.size ≤ M
 b2 : wb.heap.size ≤ M
 b3 : wb.heap.size ≤ gR

section
variable {w0 wb w w' : World} {h : HallR} {l : LevR} {r : RowR} {g gl gv gk gR gM M gr gO gB : Nat} {L L' : List FaultR} {rows rowsT : List RowR}

theorem SevM.down (hm : SevM w0 wb h g l gl gv gk gR gM M w L rows rowsT) (hb : Below w.heap.size w w') : SevM w0 wb h g l gl gv gk gR gM M w' L rows rowsT := by
 obtain ⟨N, f, h1, h2⟩ := hm.tak
 exact ⟨hm.env.down hb, (hb.block gM (lt_of_block hm.mv)).trans hm.mv, ⟨N, f, h1, h2.below hb⟩, hm.upd.trans (KUpd.of_below hb), hm.b1, hm.b2, hm.b3⟩
theorem SevM.add (hm : SevM w0 wb h g l gl gv gk gR gM M w L rows rowsT) (hc : Chk w0 h g w' L') (ht : TUpd ChkT w w') : SevM w0 wb h g l gl gv gk gR gM M w' L' rows rowsT := by
 obtain ⟨N, f, h1, h2⟩ := hm.tak
 obtain ⟨es, c, hM⟩ := h2.blk
 refine ⟨hm.env.add hc ht, ht.keep hm.mv (by unfold ChkT; decide), ⟨N, f, h1, h2.keep ?_ fun p b e => ?_⟩, hm.upd.trans (SvT.of_tupd ht), hm.b1, hm.b2, hm.b3⟩
 ·
  rw [hM]
  exact ht.block _ _ hM (fun _ _ _ e => by cases e)
 ·
  obtain ⟨cur, hh⟩ := own_type (h2.rows p) e
  rw [hh]
  exact ht.keep hh (by unfold ChkT; decide)

/-- A row's places may be taken. -/
theorem SevM.sev (hm : SevM w0 wb h g l gl gv gk gR gM M w L rows rows) (hr : RowIn w gr r) (hO : w.heap[gO]? = some (.cells #[.slice none 0 0] 97 (0, 0))) (hB : w.heap[gB]? = some (.cells #[.bool false] 4 (0, 0))) (h1 : w0.heap.size ≤ gO) (h2 : w0.heap.size ≤ gB) :
  ∃ ra rc N, N ≤ 60 * rows.length ∧ Sev w0 l r gr gO gM gR gB gl M ra rows.length rc w [] (gAt rows) false N := by
 obtain ⟨N, f, q1, q2⟩ := hm.tak
 obtain ⟨v, hv, ho⟩ := hm.env.row
 obtain ⟨la, c, rfl, _⟩ := OwnRecs.of_row ho
 exact ⟨la, c, N, q1, .slice none 0 0, f, hm.env.chk.below, ⟨h1, h2, hm.b1⟩, hr, hO, nil_row, q2, fun p e => rfl, hm.mv, hv, hB, hm.env.lev⟩

/-- Behind the sorting of what was gathered. -/
theorem SevF.srt {gO gB nr rc N : Nat} {ra : Option Addr} {O O' : List Int} {G : PtT → List Int} {bl : Bool} {v : Value} {f : PtT → Value} (hs : SevF w0 l r gr gO gM gR gB gl M ra nr rc w O G bl N v f) (hg : w.grownBy w' v.ownBlock) (ho : w'.ownsRow w0.heap.size 3 1 v O'.length (O'.map (Value.int .i64))) :
  SevF w0 l r gr gO gM gR gB gl M ra nr rc w' O' G bl N v f := by
 obtain ⟨es, c, hM⟩ := hs.tak.blk
 have hb3 : Below w0.heap.size w0 w' := hs.below.grown hg hs.below.size (fun k hk => (hs.orow.lt k hk).1)
 refine ⟨hb3, hs.base, grown_keep hs.orow hg hs.row (by decide) (arr := []), grown_keep hs.orow hg hs.ov (by decide) (arr := []), ho, ?_, hs.ap, grown_keep hs.orow hg hs.mv (by decide) (arr := []), grown_keep hs.orow hg hs.rv (by decide) (arr := []), grown_keep hs.orow hg hs.bv (by decide) (arr := []), grown_keep hs.orow hg hs.lev (by decide) (arr := [])⟩
 exact hs.tak.grown hg (fun e => row_ne_map hs.orow hM e) (fun p e => hs.ap p e)

/-- What is left of it behind the striking of what is there twice. -/
theorem SevF.rest {gO gB nr rc N : Nat} {ra : Option Addr} {O : List Int} {G : PtT → List Int} {bl : Bool} {v : Value} {f : PtT → Value} (hs : SevF w0 l r gr gO gM gR gB gl M ra nr rc w O G bl N v f) (hg : w.grownBy w' v.ownBlock) :
  Below w0.heap.size w0 w' ∧ RowIn w' gr r ∧ TakenF w' w0.heap.size M N f G ∧ w'.heap[gM]? = some (.cells #[.map (some M)] 101 (0, 0)) ∧ w'.heap[gB]? = some (.cells #[.bool bl] 4 (0, 0)) := by
 obtain ⟨es, c, hM⟩ := hs.tak.blk
 exact ⟨hs.below.grown hg hs.below.size (fun k hk => (hs.orow.lt k hk).1), grown_keep hs.orow hg hs.row (by decide) (arr := []), hs.tak.grown hg (fun e => row_ne_map hs.orow hM e) (fun p e => hs.ap p e), grown_keep hs.orow hg hs.mv (by decide) (arr := []), grown_keep hs.orow hg hs.bv (by decide) (arr := [])⟩
theorem SevF.kup {gO gB nr rc N : Nat} {ra : Option Addr} {O : List Int} {G : PtT → List Int} {bl : Bool} {v : Value} {f : PtT → Value} (hs : SevF w0 l r gr gO gM gR gB gl M ra nr rc w O G bl N v f) (hg : w.grownBy w' v.ownBlock) : KUpd (SevT gB M) w w' := KUpd.of_grown hg fun b o e hb => by
 obtain ⟨cur, hh⟩ := own_type hs.orow e
 rw [hb] at hh
 cases hh
 exact Or.inr (Or.inr ⟨_, _, _, rfl, Or.inl rfl⟩)

/-- Behind a row's places. -/
theorem SevM.after {N : Nat} {f : PtT → Value} (hm : SevM w0 wb h g l gl gv gk gR gM M w L rows rows) (hk : KUpd (SevT gB M) w w') (hgB : wb.heap.size ≤ gB) (hgk : gB ≠ gk) (hbB : ∃ bl, w.heap[gB]? = some (.cells #[.bool bl] 4 (0, 0)))
  (hb : Below w0.heap.size w0 w') (hT : TakenF w' w0.heap.size M N f (gAt rowsT)) (hN : N ≤ 60 * rowsT.length) (hmv : w'.heap[gM]? = some (.cells #[.map (some M)] 101 (0, 0))) :
  SevM w0 wb h g l gl gv gk gR gM M w' L rows rowsT := by
 obtain ⟨N0, f0, _, h2⟩ := hm.tak
 obtain ⟨es, c, hM⟩ := h2.blk
 obtain ⟨bl, hbB⟩ := hbB
 refine ⟨hm.env.kupd hb hk fun b arr T x hh hs => ?_, hmv, ⟨N, f, hN, hT⟩, hm.upd.trans (SvT.of_sev hgB hm.b2 hk), hm.b1, hm.b2, hm.b3⟩
 rcases hs with rfl | rfl | ⟨A, U, y, e, hU⟩
 ·
  rw [hbB] at hh
  cases hh
  exact ⟨hgk, by decide, by decide, by decide, by decide, by decide, by decide⟩
 ·
  rw [hM] at hh; cases hh
 ·
  cases e
  refine ⟨fun e => ?_, ?_⟩
  ·
   subst e
   obtain ⟨arr', ha, _⟩ := hm.env.rk
   rw [ha] at hh
   cases hh
   rcases hU with h | h <;> exact absurd h (by decide)
  ·
   rcases hU with rfl | rfl <;> exact ⟨by decide, by decide, by decide, by decide, by decide, by decide⟩
end

/-- An element of an own list of numbers. -/
theorem own_int {w : World} {B c : Nat} {la : Option Addr} {S : List Nat} (h : w.ownsRow B 3 1 (.slice la S.length c) S.length ((S.map Int.ofNat).map (Value.int .i64))) {j : Nat} (hj : j < S.length) : ∃ b o, la = some ⟨b, o, none⟩ ∧ w.cell? ⟨b, o + j, none⟩ = some (.int .i64 (S[j] : Nat)) := by
 rw [← flat_int] at h
 obtain ⟨la', c', e, hr, _⟩ := Rcs.of_own h
 simp only [Value.slice.injEq] at e
 obtain ⟨rfl, _, _⟩ := e
 obtain ⟨b, o, e, hc⟩ := int_at hr j (by simpa using hj) (by simpa using hj)
 exact ⟨b, o, e, by rw [hc, List.getElem_map]; rfl⟩

/-- The rows' own list. -/
theorem SevE.recs {w0 w : World} {h : HallR} {l : LevR} {g gl gv gk gR : Nat} {L : List FaultR} {rows : List RowR} (he : SevE w0 h g l gl gv gk gR w L rows) :
  ∃ la c, w.heap[gR]? = some (.cells #[.slice la rows.length c] 50 (0, 0)) ∧ Recs RowE w la rows.length rows ∧ (la = none → c = 0) := by
 obtain ⟨v, hv, ho⟩ := he.row
 obtain ⟨la, c, e, hr, h0⟩ := Rcs.of_own ho
 subst e
 exact ⟨la, c, hv, hr, h0⟩

/-- One row more. -/
theorem SevM.push {w0 wb w w3 : World} {h : HallR} {l : LevR} {r : RowR} {g gl gv gk gR gM M : Nat} {L : List FaultR} {rows rowsT : List RowR} {v v' : Value} (hm : SevM w0 wb h g l gl gv gk gR gM M w L rows rowsT) (hv : w.heap[gR]? = some (.cells #[v] 50 (0, 0))) (hrow : w.ownsRow w0.heap.size 49 8 v rows.length (flat RowE rows))
  (ho : w3.ownsRow w0.heap.size 49 8 v' (rows ++ [r]).length (flat RowE (rows ++ [r]))) (hg : w.grownBy w3 v.ownBlock) :
  SevM w0 wb h g l gl gv gk gR gM M (w3.setCell ⟨gR, 0, none⟩ v') L (rows ++ [r]) rowsT := by
 obtain ⟨N, f, h1, h2⟩ := hm.tak
 obtain ⟨es, c, hM⟩ := h2.blk
 have hkey : ∀ {b : Nat} {A : Array Value} {T : TypeId} {x : Nat × Nat}, w.heap[b]? = some (.cells A T x) → T ≠ 49 → w3.heap[b]? = some (.cells A T x) := fun {b A T x} hb hT =>
  (hg.block b (lt_of_block hb) (fun e => by
   obtain ⟨cur, hh⟩ := own_type hrow e.symm
   exact type_ne hb hh hT rfl)).trans hb
 have hR3 := hkey hv (by decide)
 have hk1 : KUpd (fun b o => ∃ arr x, o = .cells arr 49 x ∨ o = .cells arr 50 x) w w3 := KUpd.of_grown hg fun b o e hb => by
  obtain ⟨cur, hh⟩ := own_type hrow e
  rw [hb] at hh
  cases hh
  exact ⟨_, _, Or.inl rfl⟩
 have hk2 : KUpd (fun b o => ∃ arr x, o = .cells arr 49 x ∨ o = .cells arr 50 x) w (w3.setCell ⟨gR, 0, none⟩ v') := hk1.trans (KUpd.of_set hR3 ⟨_, _, Or.inr rfl⟩)
 have hb3 : Below w0.heap.size w0 w3 := hm.env.chk.below.grown hg hm.env.chk.below.size (fun k hk => (hrow.lt k hk).1)
 have hb4 : Below w0.heap.size w0 (w3.setCell ⟨gR, 0, none⟩ v') := hb3.trans (below_set hm.env.base)
 have hkc : ∀ {b : Nat} {A : Array Value} {T : TypeId} {x : Nat × Nat}, w.heap[b]? = some (.cells A T x) → T ≠ 49 → T ≠ 50 → (w3.setCell ⟨gR, 0, none⟩ v').heap[b]? = some (.cells A T x) := fun hb h1 h2 => hk2.block _ _ hb (by
  rintro ⟨arr, x, e | e⟩ <;> cases e
  ·
   exact h1 rfl
  ·
   exact h2 rfl)
 refine ⟨⟨hm.env.chk.kupd hb4 hk2 (fun _ _ _ _ => by rintro ⟨arr, x, e | e⟩ <;> cases e) (fun _ _ _ _ => by rintro ⟨arr, x, e | e⟩ <;> cases e), hm.env.base, hkc hm.env.lev (by decide) (by decide), hkc hm.env.rv (by decide) (by decide), ?_, v', set_var hR3, ?_⟩, hkc hm.mv (by decide) (by decide), ⟨N, f, h1, h2.keep ?_ fun p b e => ?_⟩, hm.upd.trans (hk2.wide fun b o => ?_), hm.b1, hm.b2, hm.b3⟩
 ·
  obtain ⟨arr, ha, _⟩ := hm.env.rk
  exact hm.env.rk.of_heap (by rw [ha]; exact hkc ha (by decide) (by decide))
 ·
  refine row_of_heap ho fun b hb => ?_
  obtain ⟨cur, hh⟩ := own_type ho hb
  rw [set_keep hR3 hh (by decide), hh]
 ·
  rw [hM]
  exact hk2.block _ _ hM (by rintro ⟨arr, x, e | e⟩ <;> cases e)
 ·
  obtain ⟨cur, hh⟩ := own_type (h2.rows p) e
  rw [hh]
  exact hkc hh (by decide) (by decide)
 ·
  rintro ⟨arr, x, rfl | rfl⟩
  ·
   exact Or.inr ⟨_, _, _, rfl, Or.inr (Or.inr (Or.inr (Or.inl rfl)))⟩
  ·
   exact Or.inr ⟨_, _, _, rfl, Or.inr (Or.inr (Or.inr (Or.inr rfl)))⟩
end Go.Proofs.YtmcdhggnpfhlmaaGreat
