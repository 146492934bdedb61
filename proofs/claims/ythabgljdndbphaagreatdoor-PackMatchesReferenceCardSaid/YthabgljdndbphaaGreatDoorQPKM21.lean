/- pack.text: the walk; pack: the maps: what is known of texts, which runs were tried; pack: plain: the solution's choices are the first ones, in order, that bring all that can be had. -/
import Derived.Test.YthabgljdndbphaaGreatDoorQPKM00
import Derived.Test.YthabgljdndbphaaGreatDoorQPKM18
import Derived.Test.YthabgljdndbphaaGreatDoorQPKM20
import Derived.Sort.OwnSorted
import Derived.Maps.Keyed
import Derived.Maps.Own
import Derived.Maps.OwnSet
import Derived.Maps.Views
import Derived.DeepKeys4
import Derived.Carry

set_option linter.unusedVariables false
set_option linter.unusedSimpArgs false
namespace Go.Proofs.YthabgljdndbphaaGreatDoor
open Go.RowKit Go.IntWalk Go.Sort
set_option linter.unusedSimpArgs false
set_option linter.unusedVariables false

/-- What the library's variables hold that text reads. -/
def PKit (w : World) : Prop := Lib.TabIs Tryz.prog w "internal/strconv.uint64pow10" .u64 Lib.pow10Tab
theorem PKit.below {w w' : World} (h : PKit w) (hb : Below w.heap.size w w') : PKit w' :=
 Joins.tab_stays (by kernel_rfl : Tryz.prog.globalNamed "internal/strconv.uint64pow10" = some 0) h hb (Nat.le_refl _)
theorem below_growN (w : World) (k : Nat) (os : Array Obj) : Below w.heap.size w (Sort.grow (w.drewN k) os) := by
 have h1 : Below w.heap.size w (w.drewN k) := below_drewN (Below.refl _ _) k
 refine h1.trans (c := Sort.grow (w.drewN k) os) ⟨rfl, rfl, rfl, by simp [Sort.grow], fun j hj => ?_⟩
 show (w.heap ++ os)[j]? = w.heap[j]?
 exact Array.getElem?_append_left hj
theorem itoa_nat (x : Nat) : Lib.itoa (x : Int) = Lib.decDigits x := by
 unfold Lib.itoa
 rw [if_neg (by omega), Int.toNat_natCast]
theorem itoa_any (x : Nat) (hx : x ≤ 2000000000) (w : World) (hk : PKit w) : Calls Tryz.prog 78 #[.int .i64 x] w fun e w' => e = .returned (.string (bs (Lib.decDigits x))) ∧ Below w.heap.size w w' := by
 refine (Tryz.strconv_Itoa (x : Int) (by omega) (by omega) w hk).mono ?_
 rintro e w' ⟨rfl, k, os, rfl⟩
 exact ⟨by rw [itoa_nat]; rfl, below_growN w k os⟩
theorem bs_append (x y : List UInt8) : bs x ++ bs y = bs (x ++ y) := ByteArray.mk_append_mk x y
theorem dec_len {n : Nat} (h : n ≤ 4000) : (Lib.decDigits n).length ≤ 4 := by
 rw [Lib.decDigits_length]
 unfold Lib.nDigits
 split
 ·
  omega
 ·
  unfold Lib.nDigits
  split
  ·
   omega
  ·
   unfold Lib.nDigits
   split
   ·
    omega
   ·
    unfold Lib.nDigits
    split
    ·
     omega
    ·
     omega
theorem runT_len {r : Int × Bool} (h : 0 ≤ r.1 ∧ r.1 ≤ 4000) : (runT r).length ≤ 5 := by
 unfold runT
 have := dec_len (n := r.1.toNat) (by omega)
 rw [List.length_append]
 split <;> simp <;> omega

def StrE : Enc (List UInt8) 1 := ⟨fun x => [.string (bs x)], fun _ => rfl, fun x v hv => by
 simp only [List.mem_cons, List.not_mem_nil, or_false] at hv
 subst hv; rfl, by decide⟩
theorem info_str : (Tryz.prog.info? 9).map (fun i => (i.zero, i.size, i.bytes)) = some (some (.string (bs [])), 1, 16) := by kernel_rfl
theorem flat_str (ss : List (List UInt8)) : flat StrE ss = ss.map encStr := by
 unfold flat
 induction ss with
 | nil => rfl
 | cons s ss ih => rw [List.flatMap_cons, ih]; rfl

theorem sort_strs (B n : Nat) (v : Value) (ss : List (List UInt8)) (w : World) (hB : B ≤ w.heap.size) (hn : n ≤ 1000000) (h : w.ownsRow B 9 1 v n (ss.map encStr)) :
  Calls Tryz.prog 79 #[v] w fun e w' => e = .returned (.tuple #[]) ∧ w'.ownsRow B 9 1 v n ((ss.mergeSort (fun x y => decide (x ≤ y))).map encStr) ∧ w.grownBy w' v.ownBlock := by
 have hlen : ss.length = n := by have := h.1; simpa using this
 rcases h.2 with ⟨rfl, hz⟩ | ⟨gb, cap, cur, rfl, hbase, hgb, r1, r2, r3, r4⟩
 ·
  have hss : ss = [] := List.eq_nil_of_length_eq_zero (by omega)
  subst hss
  refine (Tryz.slices_Sort_string_none none 0 w).mono ?_
  rintro e w' ⟨rfl, rfl⟩
  exact ⟨rfl, by simpa using h, ⟨rfl, rfl, rfl, Nat.le_refl _, fun _ _ _ => rfl⟩⟩
 ·
  have hH : Holds encStr w gb 0 ss.toArray := holds_of_block hgb (by rw [hlen]; simpa using r4)
  have hgl : gb < w.heap.size := (Array.getElem?_eq_some_iff.1 hgb).1
  have hs := Tryz.slices_Sort_string gb 0 cap ss w hH hgl (by omega)
  rw [hlen] at hs
  refine hs.mono ?_
  rintro e w' ⟨rfl, k, os, rfl⟩
  refine ⟨rfl, ?_, grownBy_sorted _⟩
  have := ownsRow_sorted (n := k) (os := os) (ts := ss.mergeSort fun x y => decide (x ≤ y)) (ss := ss) (by simp) hbase hgb (by omega) r2 (by simpa using r3)
  rw [hlen] at this
  exact this

theorem join_joinJ : ∀ ss : List (List UInt8), Lib.join ss [32] = joinJ ss
 | [] => rfl
 | s :: ss => by
  rw [Lib.join_cons, joinJ]
  congr 1
  induction ss with
  | nil => rfl
  | cons t ss ih =>
   rw [tailJ, ← ih]
   simp [Lib.joinTail]
theorem joinJ_len : ∀ ss : List (List UInt8), (∀ s ∈ ss, s.length ≤ 5) → (joinJ ss).length ≤ 6 * ss.length
 | [], _ => by simp [joinJ]
 | s :: ss, h => by
  have h1 := h s (List.mem_cons_self ..)
  have : ∀ tt : List (List UInt8), (∀ s ∈ tt, s.length ≤ 5) → (tailJ tt).length ≤ 6 * tt.length := by
   intro tt
   induction tt with
   | nil => intro _; simp [tailJ]
   | cons t tt ih =>
    intro hh
    have h2 := hh t (List.mem_cons_self ..)
    have := ih fun s hs => hh s (List.mem_cons_of_mem _ hs)
    simp only [tailJ, List.length_cons, List.length_append]
    omega
  have := this ss fun s hs => h s (List.mem_cons_of_mem _ hs)
  simp only [joinJ, List.length_append, List.length_cons]
  omega
theorem join_strs (n : Nat) (v : Value) (ss : List (List UInt8)) (B : Nat) (w : World) (hn : n ≤ 4000) (hs : ∀ s ∈ ss, s.length ≤ 5) (h : w.ownsRow B 9 1 v n (ss.map encStr)) :
  Calls Tryz.prog 80 #[v, .string (bs [32])] w fun e w' => e = .returned (.string (bs (joinJ ss))) ∧ Below w.heap.size w w' := by
 have hlen : ss.length = n := by have := h.1; simpa using this
 rcases h.2 with ⟨rfl, hz⟩ | ⟨gb, cap, cur, rfl, hbase, hgb, r1, r2, r3, r4⟩
 ·
  have hss : ss = [] := List.eq_nil_of_length_eq_zero (by omega)
  subst hss
  subst hz
  refine (Tryz.strings_Join_none none 0 (bs [32]) w).mono ?_
  rintro e w' ⟨rfl, rfl⟩
  exact ⟨rfl, Below.refl _ _⟩
 ·
  have hgl : gb < w.heap.size := (Array.getElem?_eq_some_iff.1 hgb).1
  have hdl : (ss.map bs).map (·.data.toList) = ss := by
   rw [List.map_map]
   conv => rhs; rw [← List.map_id ss]
   exact List.map_congr_left fun s _ => by simp [bs]
  have hj : Lib.join ((ss.map bs).map (·.data.toList)) (bs [32]).data.toList = joinJ ss := by
   rw [hdl]
   exact join_joinJ ss
  have hl := joinJ_len ss hs
  have hJ := Tryz.strings_Join gb 0 cap (ss.map bs) (bs [32]) w (fun j x hx => by
   have hx' : (ss.map encStr)[j]? = some (.string x) := by
    rw [List.getElem?_map] at hx ⊢
    cases hss : ss[j]? with
    | none => rw [hss] at hx; cases hx
    | some s => rw [hss] at hx; cases hx; rfl
   rw [Nat.zero_add, cell_of_row (j := j) _ _ _ _ _ hgb, ← Array.getElem?_toList]
   rw [← r4] at hx'
   have hjn : j < n * 1 := by
    rcases Nat.lt_or_ge j (n * 1) with a | a
    ·
     exact a
    ·
     rw [List.getElem?_eq_none (by simp; omega)] at hx'; cases hx'
   rw [List.getElem?_take_of_lt hjn] at hx'
   exact hx') hgl (by simp; omega) (by simp; omega) (by rw [hj]; omega)
  rw [hj] at hJ
  rw [List.length_map, hlen] at hJ
  exact hJ
set_option maxRecDepth 100000 in
set_option maxHeartbeats 8000000 in
theorem text_any (w : World) (g : Nat) (la : Option Addr) (n c : Nat) (L : List (Int × Bool)) (h : Recs RunE w la n L) (hn : n ≤ 4000) (hg : g ≤ 4000) (hr : ∀ r ∈ L, 0 ≤ r.1 ∧ r.1 ≤ 4000) (hk : PKit w) :
  Calls Tryz.prog 60 #[.int .i64 g, .slice la n c] w fun e w' => ∃ t, e = .returned (.string (bs t)) ∧ Below w.heap.size w w' ∧ IsText g L t ∧ t.length ≤ 100000 := by
 obtain rfl : L.length = n := h.1
 have HR := Lib.hid h
 have HK := Lib.hid hk
 have HRB := Lib.hid hr
 clear h hk hr
 refine enter_fr (N := 35) [.int .i64 g, .slice la L.length c] (Tryz.func60) rfl Tryz.ntmps60 (by rfl) (fun a hF => ?_);replace hF := hF.kp [0, 1] rfl;revert hF;refine zrs [2] [0, 1] fun a hF => ?_;revert hF;refine zrs [2] [0, 1, 5] fun a hF => ?_
 have HB0 : Hid (Below w.heap.size w w) := Below.refl _ _
 have HO0 : Hid (w.ownsRow w.heap.size 9 1 (.slice none 0 0) 0 (flat StrE ((L.take 0).map runT))) := nil_row
 refine seq_cut (fun a' w' => ∃ v : Value, FrF 35 [] [(0, .int .i64 g), (5, v)] a' ∧ Hid (Below w.heap.size w w') ∧ Hid (w'.ownsRow w.heap.size 9 1 v L.length (flat StrE ((L.take L.length).map runT)))) (fun KAi hKAi => ?_) ?_
 ·
  skip
  revert hF;refine zrs [1, 4, 1] [0, 5, 9, 10, 11] fun a hF => ?_
  refine wp_block ?_
  refine loop_fr (fun qi a' w' => ∃ i : Nat, i + qi = L.length ∧ ∃ v : Value, FrF 35 [] [(0, .int .i64 g), (5, v), (9, .slice la L.length c), (10, .int .i64 L.length), (11, .int .i64 i)] a' ∧ Hid (Below w.heap.size w w') ∧ Hid (w'.ownsRow w.heap.size 9 1 v i (flat StrE ((L.take i).map runT)))) (L.length) ⟨0, by omega, _, hF, HB0, HO0⟩ ?_
  clear hF HB0  HO0
  rintro rki a wr ⟨i, hiki, v, hF, HB, HO⟩ KBi hKBi
  by_cases hlt : i < L.length
  rotate_left
  ·
   have hlti : ¬ (i : Int) < (L.length : Nat) := by omega
   revert hF;refine zrs [5] [0, 5, 9, 10, 11, 12] fun a hF => ?_;refine wp_seq_k (fun K hK => ?_)
   refine cond_no hF rfl ?_
   refine wp_exit ?_
   have hie : i = L.length := by omega
   rw [hie] at HO
   exact hKAi _ _ ⟨_, hF.sub ⟨rfl, rfl, trivial⟩, HB, HO⟩
  have hlti : (i : Int) < (L.length : Nat) := by omega
  revert hF;refine zrs [5] [0, 5, 9, 10, 11, 12] fun a hF => ?_;refine wp_seq_k (fun K hK => ?_)
  refine cond_yes hF rfl ?_
  refine wp_skip ?_
  refine hK _ _ ?_;clear hK;replace hF := hF.kp [0, 5, 9, 10, 11] rfl
  clear hKAi
  refine seq_cut (fun a' w' => ∃ v : Value, FrF 35 [] [(0, .int .i64 g), (5, v), (9, .slice la L.length c), (10, .int .i64 L.length), (11, .int .i64 i)] a' ∧ Hid (Below w.heap.size w w') ∧ Hid (w'.ownsRow w.heap.size 9 1 v (i + 1) (flat StrE ((L.take (i + 1)).map runT)))) (fun KCi hKCi => ?_) ?_
  rotate_left
  ·
   clear hF HB HO
   rintro a w' ⟨v, hF, HB, HO⟩
   have hws : IntKind.i64.wrap ((i : Int) + 1) = ((i + 1 : Nat) : Int) := wrap_succ (by omega)
   revert hF;refine zrg [4, 1] [0, 5, 9, 10, 11] fun a hF => ?_
   exact hKBi (L.length - (i + 1)) _ _ (by omega) ⟨i + 1, by omega, _, hF, HB, HO⟩
  clear hKBi hiki
  refine wp_block ?_
  have hil : i < L.length := hlt
  have hri := HRB.out L[i] (List.getElem_mem hil)
  obtain ⟨bb, oo, rfl, c0, c1⟩ := run_at (HR.out.below HB.out) i hlt hil
  have hxt : (L.take (i + 1)).map runT = (L.take i).map runT ++ [runT L[i]] := by rw [List.take_succ_eq_append_getElem hil, List.map_append]; rfl
  rw [hxt] at hKCi
  clear hxt
  have hll : ((L.take i).map runT).length = i := by simp; omega
  obtain ⟨r, hr⟩ : ∃ r, r = L[i] := ⟨_, rfl⟩
  rw [← hr] at c0 c1 hri hKCi
  clear hr
  refine wp_seq_k (fun K hK => ?_);revert hF;refine zrp [5, 4] [2, 3] fun a hF => ?_;refine seq_one ?_;revert hF;refine qe0 fun a hF => ?_
  obtain ⟨wa, gr, hwa, hgv, hSV, HTW⟩ := var_new wr 63 #[.int .i64 0, .bool false] #[.int .i64 r.1, .bool r.2] (by kernel_rfl) rfl (by simp [Value.oneCell'])
  rw [hwa]
  rw [← hgv] at hF
  clear hwa hgv
  refine seq_one ?_;refine op_storev rfl rfl hF rfl rfl rfl rfl hSV ?_;clear hF;refine fun a hF => ?_
  clear hSV
  refine hK _ _ ?_;clear hK
  generalize wa.setRow gr #[.int .i64 r.1, .bool r.2] = w3 at *
  clear c0 c1
  have c0 := boxed_cell (j := 0) (v := .int .i64 r.1) HTW.out.2.1 rfl
  have c1 := boxed_cell (j := 1) (v := .bool r.2) HTW.out.2.1 rfl
  have HB3 : Hid (Below w.heap.size w w3) := HB.out.trans (HTW.out.1.mono HB.out.size)
  have HO3 := Lib.hid (row_of_heap HO.out fun b hb => HTW.out.1.block b (HO.out.lt b hb).2)
  clear HO HB
  refine wp_seq_k (fun K hK => ?_);revert hF;refine zrp [4, 4] [2, 3] fun a hF => ?_;revert hF;refine zos fun K hK => ?_
  have hIT := itoa_any r.1.toNat (by omega) w3 (HK.out.below HB3.out)
  rw [Int.toNat_of_nonneg hri.1] at hIT
  refine hIT.mono ?_
  rintro e w4 ⟨rfl, hb4⟩
  clear hIT
  have d1 : w4.cell? ⟨gr, 1, none⟩ = some (.bool r.2) := Below.cell_of hb4 c1
  clear c0 c1 HTW
  have HB4 : Hid (Below w.heap.size w w4) := HB3.out.trans (hb4.mono HB3.out.size)
  have HO4 := Lib.hid (row_of_heap HO3.out fun b hb => hb4.block b (HO3.out.lt b hb).2)
  clear HO3 HB3 hb4
  refine hK _ _ (fun a hF => ?_);clear hK K;revert hF;refine zre 3 [2] [0, 5, 7, 8, 9, 10, 11] fun a hF => ?_;refine hK _ _ ?_;clear hK
  have hdl := dec_len (n := r.1.toNat) (by omega)
  refine seq_cut (fun a' w' => w' = w4 ∧ FrF 35 [] [(0, .int .i64 g), (5, v), (8, .string (bs (runT r))), (9, .slice (some ⟨bb, oo, none⟩) L.length c), (10, .int .i64 L.length), (11, .int .i64 i)] a') (fun KU hKU => ?_) ?_
  ·
   refine wp_seq_k (fun KV hKV => ?_)
   cases hu : r.2
   ·
    rw [hu] at d1
    have hrt : runT r = Lib.decDigits r.1.toNat := by unfold runT; rw [hu]; simp
    rw [hrt] at hKU
    revert hF;refine zrg [4, 4] [0, 5, 8, 9, 10, 11, 19] fun a hF => ?_;refine hKV _ _ ?_;clear hKV
    refine cond_no hF rfl ?_
    refine wp_skip ?_
    exact hKU _ _ ⟨rfl, hF.sub ⟨rfl, rfl, rfl, rfl, rfl, rfl, trivial⟩⟩
   ·
    rw [hu] at d1
    have hrt : runT r = Lib.decDigits r.1.toNat ++ [117] := by unfold runT; rw [hu]; simp
    rw [hrt] at hKU
    have hcat : ¬ 9223372036854775807 < (bs (Lib.decDigits r.1.toNat)).size + (bs [117]).size := by rw [bs_size, bs_size]; simp; omega
    have hba : bs (Lib.decDigits r.1.toNat) ++ bs [117] = bs (Lib.decDigits r.1.toNat ++ [117]) := bs_append _ _
    revert hF;refine zrg [4, 4] [0, 5, 8, 9, 10, 11, 19] fun a hF => ?_;refine hKV _ _ ?_;clear hKV
    refine cond_yes hF rfl ?_
    have hrun : (Op.stringOp .add (bs (Lib.decDigits r.1.toNat)) ⟨#[117]⟩).run Tryz.prog w4 = .ok (.string (bs (Lib.decDigits r.1.toNat ++ [117]))) w4 := run_string_add_lists w4 _ [117] (by omega) (by simp)
    clear hba hcat
    revert hF;refine zrg [1, 4, 2] [0, 5, 8, 9, 10, 11] fun a hF => ?_
    exact hKU _ _ ⟨rfl, hF.sub ⟨rfl, rfl, rfl, rfl, rfl, rfl, trivial⟩⟩
  clear hF d1
  rintro a wu ⟨rfl, hF⟩
  revert hF;refine zrp [1, 1] [2, 3, 4] fun a hF => ?_;refine seq_one ?_;revert hF;refine qe1 fun a hF => ?_
  have HN := Lib.hid (recs_alloc StrE wu 9 [runT r] #[.string (bs (runT r))] rfl)
  have HBa := Lib.hid (Joins.below_alloc1 wu (.cells #[.string (bs (runT r))] 9))
  have HO5 := Lib.hid (row_of_heap HO4.out fun b hb => HBa.out.block b (HO4.out.lt b hb).2)
  have HB5 : Hid (Below w.heap.size w (wu.alloc (.cells #[.string (bs (runT r))] 9))) := HB4.out.trans (HBa.out.mono HB4.out.size)
  clear HBa HO4 HB4
  generalize wu.alloc (.cells #[.string (bs (runT r))] 9) = w5 at *
  obtain ⟨v', w6, hAPP, ho, hg, _⟩ := append_recs (E := StrE) 125 9 125 Tryz.underlying125 info_str rfl (by decide) HO5.out (u := .slice (some ⟨wu.heap.size, 0, none⟩) 1 1) ⟨_, _, rfl, HN.out, fun h => by cases h⟩ (by simp; omega) HB5.out.size
  have HB6 : Hid (Below w.heap.size w w6) := HB5.out.grown hg HB5.out.size (fun k hk => (HO5.out.lt k hk).1)
  have HO6 := Lib.hid ho
  clear ho hg HN HO5 HB5
  refine seq_one ?_;refine op_append rfl rfl rfl rfl rfl hF rfl rfl rfl hAPP (fun a hF => ?_);clear hAPP;revert hF;refine zre 4 [2] [0, 5, 9, 10, 11] fun a hF => ?_
  exact hKCi _ _ ⟨_, hF, HB6, HO6⟩
 clear hF HB0  HO0
 rintro a w7 ⟨v, hF, HB, HO⟩
 rw [List.take_length, flat_str] at HO
 refine wp_seq_k (fun K hK => ?_);revert hF;refine zrp [1] [1] fun a hF => ?_;revert hF;refine zos fun K hK => ?_
 refine (sort_strs w.heap.size L.length v _ w7 HB.out.size (by omega) HO.out).mono ?_
 rintro e w8 ⟨rfl, ho8, hg8⟩
 have HB8 : Hid (Below w.heap.size w w8) := HB.out.grown hg8 HB.out.size (fun k hk => (HO.out.lt k hk).1)
 have HP : Hid (((L.map runT).mergeSort fun x y => decide (x ≤ y)).Perm (L.map runT)) := List.mergeSort_perm _ _
 have HSL : Hid (∀ s ∈ (L.map runT).mergeSort (fun x y => decide (x ≤ y)), s.length ≤ 5) := fun s hs => by
  obtain ⟨r, hr, rfl⟩ := List.mem_map.1 (HP.out.subset hs)
  exact runT_len (HRB.out r hr)
 have HO8 := Lib.hid ho8
 clear HO HB hg8 ho8
 generalize (L.map runT).mergeSort (fun x y => decide (x ≤ y)) = ss at *
 refine hK _ _ (fun a hF => ?_);clear hK K;refine seq_end ?_;replace hF := hF.kp [0, 5] rfl;refine hK _ _ ?_;clear hK;refine wp_seq_k (fun K hK => ?_);revert hF;refine zrp [1] [1, 2, 3, 4, 5, 6] fun a hF => ?_;revert hF;refine zos fun K hK => ?_
 refine (itoa_any g (by omega) w8 (HK.out.below HB8.out)).mono ?_
 rintro e w9 ⟨rfl, hb9⟩
 have HB9 : Hid (Below w.heap.size w w9) := HB8.out.trans (hb9.mono HB8.out.size)
 have HO9 := Lib.hid (row_of_heap HO8.out fun b hb => hb9.block b (HO8.out.lt b hb).2)
 clear HO8 HB8 hb9
 have hdl := dec_len hg
 have hr1 : (Op.stringOp .add (bs (Lib.decDigits g)) ⟨#[58]⟩).run Tryz.prog w9 = .ok (.string (bs (Lib.decDigits g ++ [58]))) w9 := run_string_add_lists w9 _ [58] (by omega) (by simp)
 refine hK _ _ (fun a hF => ?_);clear hK K;revert hF;refine zrc 2 [4, 1] [4, 5, 6] fun a hF => ?_;revert hF;refine zos fun K hK => ?_
 refine (join_strs L.length v ss w.heap.size w9 (by omega) HSL.out HO9.out).mono ?_
 rintro e w10 ⟨rfl, hb10⟩
 have HB10 : Hid (Below w.heap.size w w10) := HB9.out.trans (hb10.mono HB9.out.size)
 clear hb10 HO9 HB9
 have hjl := joinJ_len ss HSL.out
 have hsl : ss.length = L.length := by have := HP.out.length_eq; simpa using this
 have hr2 : (Op.stringOp .add (bs (Lib.decDigits g ++ [58])) (bs (joinJ ss))).run Tryz.prog w10 = .ok (.string (bs (Lib.decDigits g ++ [58] ++ joinJ ss))) w10 := run_string_add_lists w10 _ _ (by rw [List.length_append]; simp; omega) (by omega)
 refine hK _ _ (fun a hF => ?_);clear hK K;revert hF;refine zre 5 [5, 2] [4] fun a hF => ?_;refine hK _ _ ?_;clear hK;refine wp_ret ?_;(try simp only [then_ret, block_ret, goto_ret]);revert hF;refine zq ?_
 refine ⟨_, rfl, HB10.out, ⟨ss, HP.out, ?_⟩, ?_⟩
 ·
  simp
 ·
  simp only [List.length_append, List.length_cons, List.length_nil]; omega
end Go.Proofs.YthabgljdndbphaaGreatDoor

namespace Go.Proofs.YthabgljdndbphaaGreatDoor
open Go.RowKit Go.IntWalk Go.Maps Go.WideMaps
set_option linter.unusedSimpArgs false
set_option linter.unusedVariables false

/-- Each value as it stands. -/
def RV (v : Value) : Option (DataW Value × List MemPlace) := some (.held v, [])
theorem RV_inv {v u : Value} {ps : List MemPlace} (h : RV v = some (.held u, ps)) : v = u := by
 unfold RV at h
 simp at h
 exact h.1

/-! ### Texts -/
theorem lawT : Keyed Tryz.prog 9 := string_keyed Tryz.underlying9
theorem key_text (t : List UInt8) (h : t.length ≤ 100000) : keyOf Tryz.prog 9 (.string (bs t)) = some (.string t) := by
 have := keyOf_string_mk (P := Tryz.prog) Tryz.underlying9 (s := bs t) (by rw [bs_size]; unfold maxLen; omega)
 rw [bs_list] at this
 exact this
/-- What is known is right. -/
structure MemoD (single : Bool) (G : List (Int × Int)) (D : DataW Value) : Prop where
 isMap : IsMap D
 ok : ∀ t, has D (.string t) = true → ∃ v, (∀ z, D.atKey (.string t) z = .held (.int .i64 v)) ∧ ∀ k g L, g + k = G.length → (∀ r ∈ L, 0 ≤ r.1) → IsText g L t → packF single G k g L = v
theorem MemoD.empty (single : Bool) (G : List (Int × Int)) : MemoD single G (.map []) := ⟨isMap_empty, fun t h => by
 rw [has_eq] at h
 cases h⟩
theorem MemoD.put {single : Bool} {G : List (Int × Int)} {D : DataW Value} (h : MemoD single G D) {k g : Nat} {L : List (Int × Bool)} {t : List UInt8} (hg : g + k = G.length) (hr : ∀ r ∈ L, 0 ≤ r.1) (ht : IsText g L t) :
  MemoD single G (D.put (.string t) (.held (.int .i64 (packF single G k g L)))) := by
 refine ⟨h.isMap.put _ _, fun s hs => ?_⟩
 by_cases e : s = t
 ·
  subst e
  refine ⟨_, fun z => atKey_put_same h.isMap (by trivial) _ _, fun k' g' L' hg' hr' ht' => ?_⟩
  obtain ⟨e1, e2⟩ := text_inj hr' hr ht' ht
  subst e1
  have : k' = k := by omega
  subst this
  exact packF_perm single G k' g' e2
 ·
  have hne : Lit.string s ≠ Lit.string t := fun e2 => e (by injection e2)
  rw [has_put_other hne] at hs
  obtain ⟨v, h1, h2⟩ := h.ok s hs
  exact ⟨v, fun z => by rw [atKey_put_other hne]; exact h1 z, h2⟩
/-- Block M is the map of what is known, with N entries at most. -/
def MemoAt (w : World) (M N : Nat) (single : Bool) (G : List (Int × Int)) : Prop := ∃ D : DataW Value, w.ownsMap Tryz.prog 9 RV M N D ∧ MemoD single G D
section
variable {w w' : World} {M N : Nat} {single : Bool} {G : List (Int × Int)}
theorem MemoAt.made (w : World) (single : Bool) (G : List (Int × Int)) : MemoAt (w.alloc (.map #[] 0)) w.heap.size 0 single G := ⟨_, World.ownsMap_made _ _ _ _, MemoD.empty single G⟩
theorem MemoAt.blk (h : MemoAt w M N single G) : ∃ es clock, w.heap[M]? = some (.map es clock) := let ⟨_, ⟨es, c, e, _⟩, _⟩ := h; ⟨es, c, e⟩
theorem MemoAt.heap (h : MemoAt w M N single G) (e : w'.heap[M]? = w.heap[M]?) : MemoAt w' M N single G := by
 obtain ⟨D, ⟨es, clock, h1, r⟩, hD⟩ := h
 exact ⟨D, ⟨es, clock, e.trans h1, r⟩, hD⟩
theorem MemoAt.down (h : MemoAt w M N single G) (hb : Below w.heap.size w w') : MemoAt w' M N single G := h.heap (by
 obtain ⟨es, c, e⟩ := h.blk
 exact hb.block M (lt_of_block e))
theorem MemoAt.more (h : MemoAt w M N single G) {N' : Nat} (hN : N ≤ N') : MemoAt w M N' single G := let ⟨D, a, b⟩ := h; ⟨D, a.mono hN, b⟩
/-- It is looked up: not there, or what is right. -/
theorem MemoAt.look (h : MemoAt w M N single G) {k g : Nat} {L : List (Int × Bool)} {t : List UInt8} (hg : g + k = G.length) (hr : ∀ r ∈ L, 0 ≤ r.1) (ht : IsText g L t) (hl : t.length ≤ 100000) :
  ∃ v b, (Instr.lookup 102 (.map (some M)) (.string (bs t)) true).run Tryz.prog w = .ok (.tuple #[v, .bool b]) w ∧ (b = true → v = .int .i64 (packF single G k g L)) := by
 obtain ⟨D, a, d⟩ := h
 obtain ⟨v, ps, h1, h2⟩ := a.look_ok lawT Tryz.underlying102 (z := .int .i64 0) (by kernel_rfl) (zd := .held (.int .i64 0)) (zp := []) rfl (key_text t hl)
 refine ⟨v, _, h1, fun hb => ?_⟩
 obtain ⟨x, q1, q2⟩ := d.ok t hb
 rw [q1] at h2
 rw [RV_inv h2, q2 k g L hg hr ht]
theorem MemoAt.put (h : MemoAt w M N single G) (hN : N < 9000000000000000000) {k g : Nat} {L : List (Int × Bool)} {t : List UInt8} (hg : g + k = G.length) (hr : ∀ r ∈ L, 0 ≤ r.1) (ht : IsText g L t) (hl : t.length ≤ 100000) :
  ∃ w', (Instr.mapUpdate 102 (.map (some M)) (.string (bs t)) (.int .i64 (packF single G k g L))).run Tryz.prog w = .ok () w' ∧ MemoAt w' M (N + 1) single G ∧ w.grownBy w' (some M) := by
 obtain ⟨D, a, d⟩ := h
 obtain ⟨w', h1, h2, h3⟩ := a.update lawT Tryz.underlying102 (by unfold maxLen; omega) (key_text t hl) (val := .int .i64 (packF single G k g L)) (d := .held (.int .i64 (packF single G k g L))) (ps := []) rfl
 exact ⟨w', h1, ⟨_, h2, d.put hg hr ht⟩, h3⟩
end

/-! ### Runs -/
def runV (r : Int × Bool) : Value := .agg #[.int .i64 r.1, .bool r.2]
def runL (r : Int × Bool) : Lit := .string (keyBytes [.int .i64 r.1, .bool r.2])
theorem laidOut : laidOutB Tryz.prog = true := by kernel_rfl
theorem lawR : Keyed Tryz.prog 63 := Keyed.of_law (deep_law_laid laidOut (m := 20) (by decide) (by decide +kernel) (by kernel_rfl) (by kernel_rfl))
theorem key_run (r : Int × Bool) (h : (Lit.int .i64 r.1).wf = true) : keyOf Tryz.prog 63 (runV r) = some (runL r) := by
 have hkt : Tryz.prog.keyType 63 = true := by kernel_rfl
 have ho : Tryz.prog.cellsOf 63 = 2 := by kernel_rfl
 have hi : Tryz.prog.cellsOf 3 = 1 := by kernel_rfl
 have hb : Tryz.prog.cellsOf 4 = 1 := by kernel_rfl
 obtain ⟨m, hm⟩ : ∃ m, Tryz.prog.types.size = m + 1 := ⟨_, rfl⟩
 unfold keyOf runV runL
 simp only [Tryz.underlying63]
 rw [if_pos (by simp [hkt, Value.formed, Tryz.underlying63, ho]), hm]
 unfold Program.keyLits
 simp only [Tryz.underlying63, Value.cells]
 simp [ho, hi, hb, Program.keyLits, Tryz.underlying3, Tryz.underlying4, h]
theorem runL_inj {p q : Int × Bool} (hp : (Lit.int .i64 p.1).wf = true) (hq : (Lit.int .i64 q.1).wf = true) (h : runL p = runL q) : p = q := by
 have := lawR.inj (key_run p hp) (by rw [h]; exact key_run q hq)
 unfold runV at this
 simp only [Value.agg.injEq, Array.mk.injEq, List.cons.injEq, Value.int.injEq, Value.bool.injEq, true_and, and_true] at this
 exact Prod.ext this.1 this.2
structure TriedD (S : List (Int × Bool)) (D : DataW Value) : Prop where
 isMap : IsMap D
 val : ∀ r, (Lit.int .i64 r.1).wf = true → D.atKey (runL r) (.held (.bool false)) = .held (.bool (decide (r ∈ S)))
theorem TriedD.put {S : List (Int × Bool)} {D : DataW Value} (h : TriedD S D) (p : Int × Bool) (hp : (Lit.int .i64 p.1).wf = true) : TriedD (p :: S) (D.put (runL p) (.held (.bool true))) := by
 refine ⟨h.isMap.put _ _, fun r hr => ?_⟩
 by_cases e : r = p
 ·
  subst e
  rw [atKey_put_same h.isMap (by unfold runL; trivial)]
  simp
 ·
  rw [atKey_put_other (fun e2 => e (runL_inj hr hp e2)), h.val r hr]
  simp [e]
/-- Block M is the map of the runs that were tried. -/
def TriedAt (w : World) (M N : Nat) (S : List (Int × Bool)) : Prop := ∃ D : DataW Value, w.ownsMap Tryz.prog 63 RV M N D ∧ TriedD S D
section
variable {w w' : World} {M N : Nat} {S : List (Int × Bool)}
theorem TriedAt.made (w : World) : TriedAt (w.alloc (.map #[] 0)) w.heap.size 0 [] := ⟨_, World.ownsMap_made _ _ _ _, isMap_empty, fun r _ => by simp [DataW.atKey]⟩
theorem TriedAt.blk (h : TriedAt w M N S) : ∃ es clock, w.heap[M]? = some (.map es clock) := let ⟨_, ⟨es, c, e, _⟩, _⟩ := h; ⟨es, c, e⟩
theorem TriedAt.heap (h : TriedAt w M N S) (e : w'.heap[M]? = w.heap[M]?) : TriedAt w' M N S := by
 obtain ⟨D, ⟨es, clock, h1, r⟩, hD⟩ := h
 exact ⟨D, ⟨es, clock, e.trans h1, r⟩, hD⟩
theorem TriedAt.down (h : TriedAt w M N S) (hb : Below w.heap.size w w') : TriedAt w' M N S := h.heap (by
 obtain ⟨es, c, e⟩ := h.blk
 exact hb.block M (lt_of_block e))
theorem TriedAt.look (h : TriedAt w M N S) (r : Int × Bool) (hr : (Lit.int .i64 r.1).wf = true) : (Instr.lookup 105 (.map (some M)) (.agg #[.int .i64 r.1, .bool r.2]) false).run Tryz.prog w = .ok (.bool (decide (r ∈ S))) w := by
 obtain ⟨D, a, d⟩ := h
 obtain ⟨v, ps, h1, h2⟩ := a.lookup lawR Tryz.underlying105 (z := .bool false) (by kernel_rfl) (zd := .held (.bool false)) (zp := []) rfl (key_run r hr)
 rw [d.val r hr] at h2
 rw [← RV_inv h2]
 exact h1
theorem TriedAt.put (h : TriedAt w M N S) (hN : N < 1000000) (r : Int × Bool) (hr : (Lit.int .i64 r.1).wf = true) :
  ∃ w', (Instr.mapUpdate 105 (.map (some M)) (.agg #[.int .i64 r.1, .bool r.2]) (.bool true)).run Tryz.prog w = .ok () w' ∧ TriedAt w' M (N + 1) (r :: S) ∧ w.grownBy w' (some M) := by
 obtain ⟨D, a, d⟩ := h
 obtain ⟨w', h1, h2, h3⟩ := a.update lawR Tryz.underlying105 (by unfold maxLen; omega) (key_run r hr) (val := .bool true) (d := .held (.bool true)) (ps := []) rfl
 exact ⟨w', h1, ⟨_, h2, d.put r hr⟩, h3⟩
end
end Go.Proofs.YthabgljdndbphaaGreatDoor

namespace Go.Proofs.YthabgljdndbphaaGreatDoor
set_option linter.unusedSimpArgs false
set_option linter.unusedVariables false

/-- A group may sit in a run, so that the rest can bring what is then left. -/
def pickAt (single : Bool) (G : List (Int × Int)) (k g : Nat) (L : List (Int × Bool)) (left : Int) (i : Nat) : Bool :=
 decide (gs G g ≤ (L.getD i (0, false)).1) && (decide (0 ≤ packF single G k (g + 1) (sitF L i (gs G g))) && decide (packF single G k (g + 1) (sitF L i (gs G g)) + gs G g * gv G g = left))
/-- What the solution chooses. -/
def pickF (single : Bool) (G : List (Int × Int)) : Nat → Nat → List (Int × Bool) → Int → List Int
 | 0, _, _, _ => []
 | k + 1, g, L, left => match (List.range L.length).find? (pickAt single G k g L left) with
  | some i => (i : Int) :: pickF single G k (g + 1) (sitF L i (gs G g)) (left - gs G g * gv G g)
  | none => -1 :: pickF single G k (g + 1) L left
/-- The reference: all choices are looked at, in order; X: what is still to be brought. -/
def srchL (go : List (Int × Bool) → Int → Option (List Int)) (s b : Int) (L : List (Int × Bool)) (X : Int) : Nat → Nat → Option (List Int)
 | _, 0 => (go L X).map fun c => -1 :: c
 | r, n + 1 => if (L.getD r (0, false)).1 < s then srchL go s b L X (r + 1) n else match go (sitF L r s) (X - b) with
  | some c => some ((r : Int) :: c)
  | none => srchL go s b L X (r + 1) n
def srchF (single : Bool) (G : List (Int × Int)) : Nat → Nat → List (Int × Bool) → Int → Option (List Int)
 | 0, _, L, X => if X = 0 ∧ ¬ (single = true ∧ ∃ r ∈ L, r.2 = true ∧ r.1 = 1) then some [] else none
 | k + 1, g, L, X => srchL (srchF single G k (g + 1)) (gs G g) (gs G g * gv G g) L X 0 L.length

theorem find_first {p : Nat → Bool} {n r : Nat} (hr : r < n) (h : p r = true) (hb : ∀ i, i < r → p i = false) : (List.range n).find? p = some r := by
 rw [List.find?_eq_some_iff_getElem]
 refine ⟨h, r, by simpa using hr, by simp, fun j hj => ?_⟩
 rw [List.getElem_range, hb j hj]
 rfl
theorem find_no {p : Nat → Bool} {n : Nat} (hb : ∀ i, i < n → p i = false) : (List.range n).find? p = none := by
 rw [List.find?_eq_none]
 intro x hx
 rw [hb x (List.mem_range.1 hx)]
 decide

theorem srch_eq (single : Bool) (G : List (Int × Int)) (hb : ∀ g, 0 ≤ gs G g * gv G g) : ∀ (k g : Nat) (L : List (Int × Bool)) (X : Int), (0 ≤ packF single G k g L → packF single G k g L ≤ X) →
  srchF single G k g L X = if 0 ≤ packF single G k g L ∧ packF single G k g L = X then some (pickF single G k g L X) else none
 | 0, g, L, X, h => by
  rw [srchF, packF_zero]
  by_cases hl : single = true ∧ ∃ r ∈ L, r.2 = true ∧ r.1 = 1
  ·
   rw [if_neg (fun e => e.2 hl), if_pos hl, if_neg (by omega)]
  ·
   rw [if_neg hl]
   by_cases hx : X = 0
   ·
    rw [if_pos ⟨hx, hl⟩, if_pos ⟨by omega, hx.symm⟩]
    rfl
   ·
    rw [if_neg (fun e => hx e.1), if_neg (fun e => hx e.2.symm)]
 | k + 1, g, L, X, h => by
  obtain ⟨s1, s2, s3⟩ := packF_spec single G k g L
  obtain ⟨P, hP⟩ : ∃ P, P = packF single G (k + 1) g L := ⟨_, rfl⟩
  rw [← hP] at h s1 s2 s3 ⊢
  have hB := hb g
  have hc : ∀ q (hq : q < L.length), L.getD q (0, false) = L[q] := fun q hq => by simp [hq]
  have key : ∀ n r, r + n = L.length → (∀ i, i < r → pickAt single G k g L X i = false) →
    srchL (srchF single G k (g + 1)) (gs G g) (gs G g * gv G g) L X r n = if 0 ≤ P ∧ P = X then some (pickF single G (k + 1) g L X) else none := by
   intro n
   induction n with
   | zero =>
    intro r hr hno
    rw [srchL, srch_eq single G hb k (g + 1) L X (fun h0 => by have := h (by omega); omega)]
    have hf : (List.range L.length).find? (pickAt single G k g L X) = none := find_no fun i hi => hno i (by omega)
    by_cases hPX : 0 ≤ P ∧ P = X
    ·
     have hp : packF single G k (g + 1) L = P := by
      rcases s3 with e | ⟨q, hq, q1, q2, q3⟩
      ·
       exact e.symm
      ·
       have := hno q (by omega)
       unfold pickAt at this
       rw [hc q hq] at this
       simp only [Bool.and_eq_false_iff, decide_eq_false_iff_not] at this
       omega
     rw [if_pos ⟨by omega, by omega⟩, if_pos hPX, pickF, hf]
     rfl
    ·
     rw [if_neg hPX, if_neg]
     ·
      rfl
     ·
      rintro ⟨e1, e2⟩
      exact hPX ⟨by omega, by have := h (by omega); omega⟩
   | succ n ih =>
    intro r hr hno
    have hrl : r < L.length := by omega
    rw [srchL]
    by_cases hs : (L.getD r (0, false)).1 < gs G g
    ·
     rw [if_pos hs]
     refine ih (r + 1) (by omega) fun i hi => ?_
     by_cases e : i = r
     ·
      subst e
      unfold pickAt
      rw [decide_eq_false (by omega)]
      rfl
     ·
      exact hno i (by omega)
    ·
     rw [if_neg hs]
     have hs' : gs G g ≤ L[r].1 := by rw [hc r hrl] at hs; omega
     have hcb : 0 ≤ packF single G k (g + 1) (sitF L r (gs G g)) → packF single G k (g + 1) (sitF L r (gs G g)) + gs G g * gv G g ≤ P := fun h0 => s2 r hrl hs' h0
     rw [srch_eq single G hb k (g + 1) (sitF L r (gs G g)) (X - gs G g * gv G g) (fun h0 => by have := hcb h0; have := h (by omega); omega)]
     by_cases ht : 0 ≤ packF single G k (g + 1) (sitF L r (gs G g)) ∧ packF single G k (g + 1) (sitF L r (gs G g)) = X - gs G g * gv G g
     ·
      rw [if_pos ht]
      have hpk : pickAt single G k g L X r = true := by
       unfold pickAt
       rw [decide_eq_true (by omega), decide_eq_true ht.1, decide_eq_true (by omega)]
       rfl
      have := hcb ht.1
      have h4 := h (by omega)
      rw [if_pos ⟨by omega, by omega⟩, pickF, find_first hrl hpk hno]
     ·
      rw [if_neg ht]
      refine ih (r + 1) (by omega) fun i hi => ?_
      by_cases e : i = r
      ·
       subst e
       unfold pickAt
       by_cases h0 : 0 ≤ packF single G k (g + 1) (sitF L i (gs G g))
       ·
        rw [decide_eq_false (p := packF single G k (g + 1) (sitF L i (gs G g)) + gs G g * gv G g = X) (fun e2 => ht ⟨h0, by omega⟩), Bool.and_false, Bool.and_false]
       ·
        rw [decide_eq_false h0, Bool.false_and, Bool.and_false]
      ·
       exact hno i (by omega)
  rw [srchF]
  exact key L.length 0 (by omega) fun i hi => absurd hi (Nat.not_lt_zero _)
end Go.Proofs.YthabgljdndbphaaGreatDoor
