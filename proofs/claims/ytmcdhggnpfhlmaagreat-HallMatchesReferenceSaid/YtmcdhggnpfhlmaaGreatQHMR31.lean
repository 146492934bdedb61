/- hall: the reference: seats; hall: the reference: plain: a row's marks, one after another. -/
import Derived.Test.YtmcdhggnpfhlmaaGreatQHMR13
import Derived.Test.YtmcdhggnpfhlmaaGreatQHMR21
import Derived.Test.YtmcdhggnpfhlmaaGreatQHMR30

set_option linter.unusedVariables false
set_option linter.unusedSimpArgs false
namespace Go.Proofs.YtmcdhggnpfhlmaaGreat
open Go.RowKit Go.IntWalk
set_option linter.unusedSimpArgs false
set_option linter.unusedVariables false

/-- A place of a row as the reference keeps it. -/
def seatRow (r : RowR) (p : Int × Int) : RowR := ⟨[], p.2, r.y, 0, 0, p.1, none, 0, 0, [], 0⟩
theorem own_mono {w : World} {B B' k n : Nat} {T : TypeId} {v : Value} {xs : List Value} (h : w.ownsRow B T k v n xs) (hb : B' ≤ B) : w.ownsRow B' T k v n xs := by
 refine ⟨h.1, ?_⟩
 rcases h.2 with h0 | ⟨g, cap, cur, rfl, hbb, hh⟩
 ·
  exact Or.inl h0
 ·
  exact Or.inr ⟨g, cap, cur, rfl, Nat.le_trans hb hbb, hh⟩

set_option maxRecDepth 100000 in
set_option maxHeartbeats 16000000 in
theorem rseats_any (w : World) (r : RowR) (hr : r.In w) (hok : RowOk r) :
  Calls Tryz.prog 25 #[.agg #[.string (bs r.name), .int .i64 r.x, .int .i64 r.y, .int .i64 r.fr, .int .i64 r.to, .int .i64 r.step, .slice r.ma r.mn r.mc, .int .i64 r.at']] w
   fun e w' => ∃ v, e = .returned v ∧ Below w.heap.size w w' ∧ w'.ownsRow w.heap.size 49 8 v (seatsS r).length (flat RowE ((seatsS r).map (seatRow r))) := by
 obtain ⟨h1, h2, h3, h4, h5, h6, h7, h8⟩ := hok
 have HRI := Lib.hid hr
 have HFAR := Lib.hid h7
 have hx0 := h5.1
 have hx1 := h5.2
 have hsp : (spanS r.fr r.to : Int) = r.to - r.fr + 1 := by unfold spanS; omega
 have HSP := Lib.hid hsp
 clear hr h5 h6 h7 hsp
 refine enter_fr (N := 36) [.agg #[.string (bs r.name), .int .i64 r.x, .int .i64 r.y, .int .i64 r.fr, .int .i64 r.to, .int .i64 r.step, .slice r.ma r.mn r.mc, .int .i64 r.at']] (Tryz.func25) rfl Tryz.ntmps25 (by rfl) (fun a hF => ?_);replace hF := hF.kp [0] rfl;refine wp_seq_k (fun K hK => ?_);refine region_seq (l := [0, 1]) (by kernel_rfl) ?_;refine seq_one ?_;revert hF;refine qe1 fun a hF => ?_
 have HX : Hid (RowIn (w.alloc (.cells #[.string (bs r.name), .int .i64 r.x, .int .i64 r.y, .int .i64 r.fr, .int .i64 r.to, .int .i64 r.step, .slice r.ma r.mn r.mc, .int .i64 r.at'] 49)) w.heap.size r) := World.alloc_heap_new w _
 have HB1 : Hid (Below w.heap.size w (w.alloc (.cells #[.string (bs r.name), .int .i64 r.x, .int .i64 r.y, .int .i64 r.fr, .int .i64 r.to, .int .i64 r.step, .slice r.ma r.mn r.mc, .int .i64 r.at'] 49))) := Joins.below_alloc1 w _
 generalize w.alloc (.cells #[.string (bs r.name), .int .i64 r.x, .int .i64 r.y, .int .i64 r.fr, .int .i64 r.to, .int .i64 r.step, .slice r.ma r.mn r.mc, .int .i64 r.at'] 49) = w1 at *
 obtain ⟨gr, hgr⟩ : ∃ gr, gr = w.heap.size := ⟨_, rfl⟩
 rw [← hgr] at hF HX
 clear hgr
 revert hF;refine zre 1 [2] [1] fun a hF => ?_;refine hK _ _ ?_;clear hK;revert hF;refine zrs [2] [1, 3] fun a hF => ?_;refine wp_seq_k (fun KA hKA => ?_)
 obtain ⟨c0, c1, c2, c3, c4, c5, c6, c7⟩ := HX.out.cells
 revert hF;refine zrs [4, 4, 2] [1, 3, 4] fun a hF => ?_
 clear c0 c1 c2 c3 c4 c5 c6 c7
 refine wp_block ?_
 refine loop_fr (fun n a' w' => ∃ (i : Nat) (v : Value), i + n = spanS r.fr r.to ∧ FrF 36 [] [(1, .pointer (some ⟨gr, 0, none⟩)), (3, v), (4, .int .i64 (r.fr + i))] a' ∧ Hid (Below w1.heap.size w1 w') ∧ Hid (w'.ownsRow w1.heap.size 49 8 v (seatL r i).length (flat RowE ((seatL r i).map (seatRow r))))) (spanS r.fr r.to) ⟨0, _, by omega, by simpa using hF, Below.refl _ _, nil_row⟩ ?_
 clear hF
 rintro rk a wr ⟨i, v, hik, hF, HB, HO⟩ KB hKB
 refine wp_seq_k (fun K hK => ?_)
 obtain ⟨c0, c1, c2, c3, c4, c5, c6, c7⟩ := (HX.out.down HB.out).cells
 by_cases hlt : i < spanS r.fr r.to
 rotate_left
 ·
  have hle : decide (r.fr + (i : Int) ≤ r.to) = false := decide_eq_false (by have := HSP.out; omega)
  revert hF;refine zrs [1, 4, 4, 5] [1, 3, 4, 10] fun a hF => ?_
  clear c0 c1 c2 c3 c4 c5 c6 c7
  refine cond_no hF rfl ?_
  refine wp_exit ?_
  refine hKA _ _ ?_;clear hKA
  have hie : i = spanS r.fr r.to := by omega
  rw [hie] at HO
  revert hF;refine zrs [1, 2] [2] fun a hF => ?_;refine wp_ret ?_;(try simp only [then_ret, block_ret, goto_ret]);revert hF;refine zq ?_
  exact ⟨v, rfl, HB1.out.trans (HB.out.mono HB1.out.size), own_mono HO.out HB1.out.size⟩
 have hle : decide (r.fr + (i : Int) ≤ r.to) = true := decide_eq_true (by have := HSP.out; omega)
 revert hF;refine zrs [1, 4, 4, 5] [1, 3, 4, 10] fun a hF => ?_
 clear c0 c1 c2 c3 c4 c5 c6 c7
 refine cond_yes hF rfl ?_
 refine wp_skip ?_
 refine hK _ _ ?_;clear hK;replace hF := hF.kp [1, 3, 4] rfl
 clear hle hKA
 have hib : (i : Int) ≤ 59 := by have := HSP.out; omega
 refine seq_cut (fun a' w' => ∃ v : Value, FrF 36 [] [(1, .pointer (some ⟨gr, 0, none⟩)), (3, v), (4, .int .i64 (r.fr + i))] a' ∧ Hid (Below w1.heap.size w1 w') ∧ Hid (w'.ownsRow w1.heap.size 49 8 v (seatL r (i + 1)).length (flat RowE ((seatL r (i + 1)).map (seatRow r))))) (fun KC hKC => ?_) ?_
 rotate_left
 ·
  clear hF HB HO
  rintro a w' ⟨v, hF, HB, HO⟩
  have hws : IntKind.i64.wrap (r.fr + (i : Int) + 1) = r.fr + ((i + 1 : Nat) : Int) := by rw [wrap_in (by omega) (by omega)]; omega
  revert hF;refine zrg [1, 4, 2] [1, 3, 4] fun a hF => ?_
  exact hKB (spanS r.fr r.to - (i + 1)) _ _ (by omega) ⟨i + 1, v, by omega, hF, HB, HO⟩
 clear hKB hik
 have HSN := Lib.hid (seatL_next r i)
 have HLL : Hid ((seatL r i).length ≤ i) := by
  show _ ≤ _
  unfold seatL
  exact Nat.le_trans (List.length_filter_le _ _) (by simp)
 have HPX : Hid (0 ≤ (i : Int) * r.step ∧ r.x + (i : Int) * r.step ≤ 10000) := by
  refine ⟨Int.mul_nonneg (by omega) (by omega), ?_⟩
  by_cases hf : r.fr < r.to
  ·
   obtain ⟨q1, q2⟩ := HFAR.out hf
   have : (i : Int) * r.step ≤ (r.to - r.fr) * r.step := Int.mul_le_mul_of_nonneg_right (by have := HSP.out; omega) (by omega)
   omega
  ·
   have hi0 : i = 0 := by have := HSP.out; omega
   subst hi0
   simp
   exact hx1
 refine wp_block ?_
 refine wp_seq_k (fun K hK => ?_)
 have hfm := run_field_mark
 obtain ⟨c0, c1, c2, c3, c4, c5, c6, c7⟩ := (HX.out.down HB.out).cells
 revert hF;refine zrp [4, 1] [2, 3, 4] fun a hF => ?_;revert hF;refine zos fun K hK => ?_
 refine (refmark_any wr r (r.fr + i) (HRI.out.below (HB1.out.trans (HB.out.mono HB1.out.size)))).mono ?_
 rintro e w2 ⟨rfl, hb2⟩
 have HB2 : Hid (Below w1.heap.size w1 w2) := HB.out.trans (hb2.mono HB.out.size)
 have HO2 := Lib.hid (row_of_heap HO.out fun b hb => hb2.block b (HO.out.lt b hb).2)
 clear HB HO hb2 c0 c1 c2 c3 c4 c5 c6 c7
 generalize (markS r.marks (r.fr + i)).kind = mk at *
 generalize (markS r.marks (r.fr + i)).seat = mk2 at *
 generalize (markS r.marks (r.fr + i)).wth = mk3 at *
 by_cases hk : mk = 1
 ·
  have hkb : (mk != 1) = false := by simp [hk]
  have HSN2 : Hid (seatL r (i + 1) = seatL r i) := by rw [HSN.out, if_pos hk, List.append_nil]; rfl
  clear hk
  refine hK _ _ (fun a hF => ?_);clear hK K;revert hF;refine zre 3 [4, 4] [1, 3, 4, 17] fun a hF => ?_;refine hK _ _ ?_;clear hK
  refine cond_no hF rfl ?_
  refine wp_skip ?_
  exact hKC _ _ ⟨_, hF.sub ⟨rfl, rfl, rfl, trivial⟩, HB2, by rw [HSN2.out]; exact HO2⟩
 have hkb : (mk != 1) = true := by simp [hk]
 have HSN2 : Hid (seatL r (i + 1) = seatL r i ++ [(r.fr + i, r.x + i * r.step)]) := by rw [HSN.out, if_neg hk]; rfl
 clear hk
 refine hK _ _ (fun a hF => ?_);clear hK K;revert hF;refine zre 3 [4, 4] [1, 3, 4, 17] fun a hF => ?_;refine hK _ _ ?_;clear hK
 refine cond_yes hF rfl ?_
 replace hF := hF.kp [1, 3, 4] rfl
 clear hkb hfm
 have hs1 : IntKind.i64.wrap (r.fr + (i : Int) - r.fr) = (i : Int) := by rw [wrap_in (by omega) (by omega)]; omega
 obtain ⟨p, hp⟩ : ∃ p, (i : Int) * r.step = p := ⟨_, rfl⟩
 have hpx := HPX.out
 rw [hp] at hpx HSN2
 obtain ⟨hp0, hp1⟩ := hpx
 have hs2 : IntKind.i64.wrap ((i : Int) * r.step) = p := by rw [hp]; exact wrap_in (by omega) (by omega)
 have hs3 : IntKind.i64.wrap (r.x + p) = r.x + p := wrap_in (by omega) (by omega)
 clear hp HPX
 obtain ⟨c0, c1, c2, c3, c4, c5, c6, c7⟩ := (HX.out.down HB2.out).cells
 revert hF;refine zrp [1, 4, 4, 1, 4, 4, 5, 4, 4, 5, 5, 4, 4, 1, 6] [15, 16, 17] fun a hF => ?_;refine seq_one ?_;revert hF;refine qe1 fun a hF => ?_
 clear c0 c1 c2 c3 c4 c5 c6 c7 hs1 hs2 hs3
 have HN := Lib.hid (recs_alloc RowE w2 49 [seatRow r (r.fr + i, r.x + p)] #[.string ⟨#[]⟩, .int .i64 (r.x + p), .int .i64 r.y, .int .i64 0, .int .i64 0, .int .i64 (r.fr + i), .slice none 0 0, .int .i64 0] rfl)
 have HBa := Lib.hid (Joins.below_alloc1 w2 (.cells #[.string ⟨#[]⟩, .int .i64 (r.x + p), .int .i64 r.y, .int .i64 0, .int .i64 0, .int .i64 (r.fr + i), .slice none 0 0, .int .i64 0] 49))
 have HO3 := Lib.hid (row_of_heap HO2.out fun b hb => HBa.out.block b (HO2.out.lt b hb).2)
 have HB3 : Hid (Below w1.heap.size w1 (w2.alloc (.cells #[.string ⟨#[]⟩, .int .i64 (r.x + p), .int .i64 r.y, .int .i64 0, .int .i64 0, .int .i64 (r.fr + i), .slice none 0 0, .int .i64 0] 49))) := HB2.out.trans (HBa.out.mono HB2.out.size)
 clear HBa HO2 HB2
 generalize w2.alloc (.cells #[.string ⟨#[]⟩, .int .i64 (r.x + p), .int .i64 r.y, .int .i64 0, .int .i64 0, .int .i64 (r.fr + i), .slice none 0 0, .int .i64 0] 49) = w3 at *
 have hll : (seatL r i).length ≤ i := HLL.out
 obtain ⟨v', w4, hAPP, ho, hg, _⟩ := append_recs (E := RowE) 50 49 50 Tryz.underlying50 info_row rfl (by decide) HO3.out (u := .slice (some ⟨w2.heap.size, 0, none⟩) 1 1) ⟨_, _, rfl, HN.out, fun h => by cases h⟩ (by simp; omega) HB3.out.size
 have HB4 : Hid (Below w1.heap.size w1 w4) := HB3.out.grown hg HB3.out.size (fun k hk => (HO3.out.lt k hk).1)
 have HO4 := Lib.hid ho
 clear ho hg HN HO3 HB3
 refine seq_one ?_;refine op_append rfl rfl rfl rfl rfl hF rfl rfl rfl hAPP (fun a hF => ?_);clear hAPP;revert hF;refine zre 17 [2] [1, 3, 4] fun a hF => ?_
 refine hKC _ _ ⟨_, hF, HB4, ?_⟩
 rw [HSN2.out, List.map_append, List.length_append]
 exact HO4
end Go.Proofs.YtmcdhggnpfhlmaaGreat

namespace Go.Proofs.YtmcdhggnpfhlmaaGreat
open Go.RowKit Go.IntWalk
set_option linter.unusedSimpArgs false
set_option linter.unusedVariables false

def kndB (m : MarkR) : Bool := decide (m.kind < 1) || decide (4 < m.kind)
def setB (r : RowR) (m : MarkR) : Bool := decide (m.seat < r.fr) || decide (r.to < m.seat)
def bsdB (r : RowR) (m : MarkR) : Bool := decide (m.kind = 4) && !decide ((markS r.marks m.wth).kind = 2)
theorem anyM_hit {p : MarkR → Bool} {ms : List MarkR} {i : Nat} (hi : i < ms.length) (h : p ms[i] = true) : ms.any p = true := List.any_eq_true.2 ⟨_, List.getElem_mem hi, h⟩
theorem anyM_none {p : MarkR → Bool} {ms : List MarkR} (h : ∀ j (hj : j < ms.length), p ms[j] = false) : ms.any p = false := by
 rw [List.any_eq_false]
 intro x hx
 obtain ⟨j, hj, rfl⟩ := List.mem_iff_getElem.1 hx
 simp [h j hj]
theorem anyM_two {p q : MarkR → Bool} {ms : List MarkR} (h : ∀ m ∈ ms, p m = q m) : ms.any p = ms.any q := by
 induction ms with
 | nil => rfl
 | cons a t ih =>
  rw [List.any_cons, List.any_cons, h a (List.mem_cons_self ..), ih fun m hm => h m (List.mem_cons_of_mem _ hm)]
theorem wheel_eq {ms : List MarkR} (hn : (ms.map (·.seat)).Nodup) (s : Int) : wheelB ms s = decide ((markS ms s).kind = 2) := by
 rw [Bool.eq_iff_iff]
 unfold wheelB
 rw [List.any_eq_true, decide_eq_true_eq]
 constructor
 ·
  rintro ⟨m, hm, h⟩
  simp only [Bool.and_eq_true, decide_eq_true_eq] at h
  have := find_seat hn hm
  rw [h.1] at this
  unfold markS
  rw [this]
  exact h.2
 ·
  intro h
  unfold markS at h
  cases hf : ms.find? fun m => decide (m.seat = s) with
  | none => rw [hf] at h; simp at h
  | some m =>
   rw [hf] at h
   have h1 := List.find?_some hf
   exact ⟨m, List.mem_of_find?_eq_some hf, by simpa using ⟨by simpa using h1, by simpa using h⟩⟩
theorem nodup_of {ms : List MarkR} (h : ∀ i (hi : i < ms.length) k (hk : k < i), ms[i].seat ≠ ms[k].seat) : (ms.map (·.seat)).Nodup := by
 rw [List.Nodup, List.pairwise_iff_getElem]
 intro i j hi hj hij
 simp only [List.getElem_map]
 exact fun e => h j (by simpa using hj) i hij e.symm
theorem not_nodup {ms : List MarkR} {i k : Nat} (hi : i < ms.length) (hk : k < i) (h : ms[i].seat = ms[k].seat) : ¬ (ms.map (·.seat)).Nodup := by
 rw [List.Nodup, List.pairwise_iff_getElem]
 intro hp
 have := hp k i (by simp; omega) (by simpa using hi) hk
 simp only [List.getElem_map] at this
 exact this h.symm
theorem marks1 {r : RowR} {i : Nat} (hi : i < r.marks.length) (h : kndB r.marks[i] = true) : marksS r = 1 := by
 unfold marksS
 exact if_pos (anyM_hit (p := kndB) hi h)
theorem marks2 {r : RowR} (h1 : ∀ j (hj : j < r.marks.length), kndB r.marks[j] = false) {i : Nat} (hi : i < r.marks.length) (h : setB r r.marks[i] = true) : marksS r = 11 := by
 unfold marksS
 have e1 : (r.marks.any fun m => decide (m.kind < 1) || decide (4 < m.kind)) = false := anyM_none (p := kndB) h1
 rw [e1, if_neg (by decide)]
 exact if_pos (anyM_hit (p := setB r) hi h)
theorem marks3 {r : RowR} (h1 : ∀ j (hj : j < r.marks.length), kndB r.marks[j] = false) (h2 : ∀ j (hj : j < r.marks.length), setB r r.marks[j] = false) {i k : Nat} (hi : i < r.marks.length) (hk : k < i) (h : r.marks[i].seat = r.marks[k].seat) : marksS r = 9 := by
 unfold marksS
 have e1 : (r.marks.any fun m => decide (m.kind < 1) || decide (4 < m.kind)) = false := anyM_none (p := kndB) h1
 have e2 : (r.marks.any fun m => decide (m.seat < r.fr) || decide (r.to < m.seat)) = false := anyM_none (p := setB r) h2
 rw [e1, if_neg (by decide), e2, if_neg (by decide)]
 exact if_pos (by simpa using not_nodup hi hk h)
theorem marks45 {r : RowR} (h1 : ∀ j (hj : j < r.marks.length), kndB r.marks[j] = false) (h2 : ∀ j (hj : j < r.marks.length), setB r r.marks[j] = false) (h3 : ∀ i (hi : i < r.marks.length) k (hk : k < i), r.marks[i].seat ≠ r.marks[k].seat) : marksS r = if r.marks.any (bsdB r) = true then 11 else 0 := by
 unfold marksS
 have e1 : (r.marks.any fun m => decide (m.kind < 1) || decide (4 < m.kind)) = false := anyM_none (p := kndB) h1
 have e2 : (r.marks.any fun m => decide (m.seat < r.fr) || decide (r.to < m.seat)) = false := anyM_none (p := setB r) h2
 have hn := nodup_of h3
 rw [e1, if_neg (by decide), e2, if_neg (by decide), if_neg (by simpa using hn)]
 have e3 : (r.marks.any fun m => decide (m.kind = 4) && !wheelB r.marks m.wth) = r.marks.any (bsdB r) := anyM_two fun m _ => by
  unfold bsdB
  rw [wheel_eq hn]
 rw [e3]
theorem marks4 {r : RowR} (h1 : ∀ j (hj : j < r.marks.length), kndB r.marks[j] = false) (h2 : ∀ j (hj : j < r.marks.length), setB r r.marks[j] = false) (h3 : ∀ i (hi : i < r.marks.length) k (hk : k < i), r.marks[i].seat ≠ r.marks[k].seat) {i : Nat} (hi : i < r.marks.length) (h : bsdB r r.marks[i] = true) : marksS r = 11 := by
 rw [marks45 h1 h2 h3, anyM_hit hi h]
 rfl
theorem marks5 {r : RowR} (h1 : ∀ j (hj : j < r.marks.length), kndB r.marks[j] = false) (h2 : ∀ j (hj : j < r.marks.length), setB r r.marks[j] = false) (h3 : ∀ i (hi : i < r.marks.length) k (hk : k < i), r.marks[i].seat ≠ r.marks[k].seat) (h4 : ∀ j (hj : j < r.marks.length), bsdB r r.marks[j] = false) : marksS r = 0 := by
 rw [marks45 h1 h2 h3, anyM_none h4]
 rfl
end Go.Proofs.YtmcdhggnpfhlmaaGreat
