/- hall: the reference: several. -/
import Derived.Test.YtmcdhggnpfhlmaaGreatQHMR34

set_option linter.unusedVariables false
set_option linter.unusedSimpArgs false
namespace Go.Proofs.YtmcdhggnpfhlmaaGreat
open Go.RowKit Go.IntWalk
set_option linter.unusedSimpArgs false
set_option linter.unusedVariables false
set_option maxRecDepth 100000 in
set_option maxHeartbeats 64000000 in
theorem rseveral_any (w0 : World) (l : LevR) (hl : l.In w0) (hsm : l.Sm) (hrn : ∀ b ∈ l.blocks, b.rn ≤ 8) (hok : ∀ b ∈ l.blocks, ∀ r ∈ b.rows, RowOk r) (h0 : ∀ b ∈ l.blocks, b.ra = none → b.rc = 0) :
  Calls Tryz.prog 69 #[.agg #[.string (bs l.name), .int .i64 l.height, .slice l.ba l.bn l.bc, .slice l.aa l.an l.ac, .slice l.sa l.sn l.sc, .slice l.pa l.pn l.pc, .slice l.da l.dn l.dc, .int .i64 l.at']] w0 fun e w' => ∃ v, e = .returned v ∧ Below w0.heap.size w0 w' ∧ RvO w0 w' v (severalS l) := by
 have HL := Lib.hid hl
 have HBL : Hid (l.blocks.length = l.bn) := hl.blocks.1
 have HAN : Hid (l.areas.length = l.an) := hl.areas.1
 have HSN : Hid (l.aisles.length = l.sn) := hl.aisles.1
 have HPN : Hid (l.pillars.length = l.pn) := hl.pillars.1
 have hbn := hsm.b
 have hrest := hsm.rest
 have HRI : Hid (∀ r ∈ allRows l, r.In w0) := fun r hr => by
  obtain ⟨b, hb, hrb⟩ := List.mem_flatMap.1 hr
  exact (hl.blk b hb).2.2 r hrb
 have HRO : Hid (∀ r ∈ allRows l, RowOk r) := fun r hr => by
  obtain ⟨b, hb, hrb⟩ := List.mem_flatMap.1 hr
  exact hok b hb r hrb
 have HLN : Hid ((allRows l).length ≤ 48) := allRows_len (by rw [HBL.out]; exact hbn) (fun b hb => by rw [(hl.blk b hb).1.1]; exact hrn b hb)
 have hln : (allRows l).length ≤ 48 := HLN.out
 have H0 := Lib.hid h0
 have HLV : Hid (∀ i, (svF (reachS l.aisles l.doors) l i).length ≤ (allRows l).length * 102) := fun i => by
  have h1 : ((allRows l).take i).length ≤ (allRows l).length := by simp; omega
  have h2 := sevF_len (reachS l.aisles l.doors) l (rows := (allRows l).take i) (by omega)
  unfold svF
  omega
 have HAV : Hid (∀ i, (arF (reachS l.aisles l.doors) l i).length ≤ 100 * 201 + i * 201) := fun i => by
  have := arF_len (reachS l.aisles l.doors) l (by omega) (by have := HAN.out; omega) i
  omega
 clear hl hsm hrn hok h0
 refine enter_fr (N := 399) [.agg #[.string (bs l.name), .int .i64 l.height, .slice l.ba l.bn l.bc, .slice l.aa l.an l.ac, .slice l.sa l.sn l.sc, .slice l.pa l.pn l.pc, .slice l.da l.dn l.dc, .int .i64 l.at']] (Tryz.func69) rfl Tryz.ntmps69 (by rfl) (fun a hF => ?_);replace hF := hF.kp [0] rfl;refine wp_seq_k (fun K hK => ?_);refine region_seq (l := [0, 1]) (by kernel_rfl) ?_;refine seq_one ?_;revert hF;refine qe1 fun a hF => ?_
 have HX : Hid (LevIn (w0.alloc (.cells #[.string (bs l.name), .int .i64 l.height, .slice l.ba l.bn l.bc, .slice l.aa l.an l.ac, .slice l.sa l.sn l.sc, .slice l.pa l.pn l.pc, .slice l.da l.dn l.dc, .int .i64 l.at'] 32)) w0.heap.size l) := World.alloc_heap_new w0 _
 have HB1 : Hid (Below w0.heap.size w0 (w0.alloc (.cells #[.string (bs l.name), .int .i64 l.height, .slice l.ba l.bn l.bc, .slice l.aa l.an l.ac, .slice l.sa l.sn l.sc, .slice l.pa l.pn l.pc, .slice l.da l.dn l.dc, .int .i64 l.at'] 32))) := Joins.below_alloc1 w0 _
 generalize w0.alloc (.cells #[.string (bs l.name), .int .i64 l.height, .slice l.ba l.bn l.bc, .slice l.aa l.an l.ac, .slice l.sa l.sn l.sc, .slice l.pa l.pn l.pc, .slice l.da l.dn l.dc, .int .i64 l.at'] 32) = w1 at *
 obtain ⟨gl, hg⟩ : ∃ g, g = w0.heap.size := ⟨_, rfl⟩
 rw [← hg] at hF HX
 clear hg
 revert hF;refine zre 1 [2] [1] fun a hF => ?_;refine hK _ _ ?_;clear hK;revert hF;refine zrs [2] [1, 3] fun a hF => ?_;refine wp_seq_k (fun K hK => ?_)
 obtain ⟨q0, q1, q2, q3, q4, q5, q6, q7⟩ := HX.out.cells
 revert hF;refine zrp [4] [1, 2] fun a hF => ?_;revert hF;refine zos fun K hK => ?_
 refine (rreached_any w1 l (HL.out.below HB1.out).aisles (HL.out.below HB1.out).doors (by omega) (by omega)).mono ?_
 rintro e w2 ⟨⟨gr, rfl, hgr, hre⟩, hb2⟩
 clear q0 q1 q2 q3 q4 q5 q6 q7
 have HS2 : Hid (Below w0.heap.size w0 w2 ∧ LevIn w2 gl l ∧ BoolRow w2 gr 4 (reachS l.aisles l.doors)) := ⟨HB1.out.trans (hb2.mono HB1.out.size), HX.out.down hb2, hre⟩
 clear HX HB1 hb2 hre hgr
 refine hK _ _ (fun a hF => ?_);clear hK K;revert hF;refine zre 2 [2] [1, 3, 4] fun a hF => ?_;refine hK _ _ ?_;clear hK;refine wp_seq_k (fun K hK => ?_)
 obtain ⟨q0, q1, q2, q3, q4, q5, q6, q7⟩ := HS2.out.2.1.cells
 revert hF;refine zrp [4] [1, 2] fun a hF => ?_;revert hF;refine zos fun K hK => ?_
 refine (rrows_any w2 l (HL.out.below HS2.out.1) H0.out (by omega)).mono ?_
 rintro e w3 ⟨va, rfl, hb3, ho3⟩
 clear q0 q1 q2 q3 q4 q5 q6 q7
 obtain ⟨la, ca, rfl, ho4⟩ := OwnR.of (own_mono (B' := w0.heap.size) ho3 HS2.out.1.size)
 have HS : Hid (RvE w0 w3 l gl gr la ca ∧ RvO w0 w3 (.slice none 0 0) (svF (reachS l.aisles l.doors) l 0)) := ⟨⟨HS2.out.1.trans (hb3.mono HS2.out.1.size), HS2.out.2.1.down hb3, BoolRow.of_heap HS2.out.2.2 (hb3.block gr HS2.out.2.2.lt), ho4⟩, nil_row⟩
 clear HS2 hb3 ho3 ho4
 refine hK _ _ (fun a hF => ?_);clear hK K;revert hF;refine zre 2 [2] [1, 3, 4, 5] fun a hF => ?_;refine hK _ _ ?_;clear hK
 refine seq_cut (fun a' w' => ∃ v : Value, FrF 399 [] [(1, .pointer (some ⟨gl, 0, none⟩)), (3, v), (4, .slice (some ⟨gr, 0, none⟩) l.sn l.sn), (5, .slice la (allRows l).length ca)] a' ∧ Hid (RvE w0 w' l gl gr la ca ∧ RvO w0 w' v (svF (reachS l.aisles l.doors) l (allRows l).length))) (fun KAi hKAi => ?_) ?_
 ·
  skip
  revert hF;refine zrs [2] [1, 3, 4, 5, 6] fun a hF => ?_
  refine wp_block ?_
  refine loop_fr (fun qi a' w' => ∃ i : Nat, i + qi = (allRows l).length ∧ ∃ v : Value, FrF 399 [] [(1, .pointer (some ⟨gl, 0, none⟩)), (3, v), (4, .slice (some ⟨gr, 0, none⟩) l.sn l.sn), (5, .slice la (allRows l).length ca), (6, .int .i64 i)] a' ∧ Hid (RvE w0 w' l gl gr la ca ∧ RvO w0 w' v (svF (reachS l.aisles l.doors) l i))) ((allRows l).length) ⟨0, by omega, _, hF, HS⟩ ?_
  clear hF HS
  rintro rki a w2 ⟨i, hiki, v, hF, HS⟩ KBi hKBi
  refine wp_seq_k (fun K hK => ?_)
  by_cases hlt : i < (allRows l).length
  rotate_left
  ·
   have hlti : ¬ (i : Int) < ((allRows l).length : Nat) := by omega

   revert hF;refine zrs [1, 1, 4, 5] [1, 3, 4, 5, 6, 36] fun a hF => ?_
   refine cond_no hF rfl ?_
   refine wp_exit ?_
   have hie : i = (allRows l).length := by omega
   rw [hie] at HS
   exact hKAi _ _ ⟨_, hF.sub ⟨rfl, rfl, rfl, rfl, trivial⟩, HS⟩
  have hlti : (i : Int) < ((allRows l).length : Nat) := by omega

  revert hF;refine zrs [1, 1, 4, 5] [1, 3, 4, 5, 6, 36] fun a hF => ?_
  refine cond_yes hF rfl ?_
  refine wp_skip ?_
  refine hK _ _ ?_;clear hK;replace hF := hF.kp [1, 3, 4, 5, 6] rfl
  clear hKAi
  refine seq_cut (fun a' w' => ∃ v : Value, FrF 399 [] [(1, .pointer (some ⟨gl, 0, none⟩)), (3, v), (4, .slice (some ⟨gr, 0, none⟩) l.sn l.sn), (5, .slice la (allRows l).length ca), (6, .int .i64 i)] a' ∧ Hid (RvE w0 w' l gl gr la ca ∧ RvO w0 w' v (svF (reachS l.aisles l.doors) l (i + 1)))) (fun KCi hKCi => ?_) ?_
  rotate_left
  ·
   clear hF HS
   rintro a w' ⟨v, hF, HS⟩
   have hws : IntKind.i64.wrap ((i : Int) + 1) = ((i + 1 : Nat) : Int) := wrap_succ (by omega)
   revert hF;refine zrg [1, 4, 2] [1, 3, 4, 5, 6] fun a hF => ?_
   exact hKBi ((allRows l).length - (i + 1)) _ _ (by omega) ⟨i + 1, by omega, _, hF, HS⟩
  clear hKBi hiki
  refine wp_block ?_
  have hil := hlt
  have hii : (i : Int) < ((allRows l).length : Nat) := by omega
  rw [svF_next hil, ← List.append_assoc, ← List.append_assoc] at hKCi
  have HBR := Lib.hid (@svF_next (reachS l.aisles l.doors) l i hil)
  obtain ⟨r, hr⟩ : ∃ r, r = (allRows l)[i] := ⟨_, rfl⟩
  have HRIr : Hid (r.In w0) := by rw [hr]; exact HRI.out _ (List.getElem_mem hil)
  have HROr : Hid (RowOk r) := by rw [hr]; exact HRO.out _ (List.getElem_mem hil)
  rw [← hr] at hKCi
  have HRE := Lib.hid hr
  clear hr HBR hlt hlti
  have hsr := seats_len HROr.out
  have HBD : Hid (∀ k, (svF (reachS l.aisles l.doors) l i ++ filF (allRows l) (fun x => shareB r x) (fun x => ⟨13, r.at', x.at'⟩) k).length ≤ 900000) := fun k => by
   have h1 : (svF (reachS l.aisles l.doors) l i).length ≤ (allRows l).length * 102 := HLV.out i
   have h2 := filF_len (allRows l) (fun x => shareB r x) (fun x => (⟨13, r.at', x.at'⟩ : FaultR)) k
   rw [List.length_append]
   have := HLN.out
   omega
  refine wp_seq_k (fun K hK => ?_)
  obtain ⟨bb, obb, hbb, f0, f1, f2, f3, f4, f5, f6, f7⟩ := row_at HS.out.1.all.recs i hil hil
  rw [← HRE.out] at f0 f1 f2 f3 f4 f5 f6 f7
  have HLA := Lib.hid hbb
  rw [hbb] at hF
  clear hbb
  revert hF;refine zrp [1, 1, 5, 4] [4, 5] fun a hF => ?_;revert hF;refine zos fun K hK => ?_
  refine (rseats_any w2 r (HRIr.out.below HS.out.1.below) HROr.out).mono ?_
  rintro e w3 ⟨v', rfl, hb6, ho6⟩
  clear f0 f1 f2 f3 f4 f5 f6 f7
  have ho7 := own_mono (B' := w0.heap.size) ho6 HS.out.1.below.size
  rw [← List.length_map (f := seatRow r)] at ho7
  obtain ⟨sa, sc, rfl, ho8⟩ := OwnR.of ho7
  have HS4 : Hid (RvE w0 w3 l gl gr la ca ∧ RvO w0 w3 v (svF (reachS l.aisles l.doors) l i ++ filF (allRows l) (fun x => shareB r x) (fun x => ⟨13, r.at', x.at'⟩) 0) ∧ OwnR w0 w3 sa sc ((seatsS r).map (seatRow r))) := ⟨HS.out.1.down hb6, by
   have : filF (allRows l) (fun x => shareB r x) (fun x => ⟨13, r.at', x.at'⟩) 0 = ([] : List FaultR) := rfl
   rw [this, List.append_nil]
   exact HS.out.2.down hb6, ho8⟩
  clear HS hb6 ho6 ho7 ho8
  refine hK _ _ (fun a hF => ?_);clear hK K;revert hF;refine zre 5 [2] [1, 3, 4, 5, 6, 7] fun a hF => ?_;refine hK _ _ ?_;clear hK
  (try simp only [List.length_map] at hF)
  rw [← HLA.out] at hF
  clear HLA
  refine seq_cut (fun a' w' => ∃ v : Value, FrF 399 [] [(1, .pointer (some ⟨gl, 0, none⟩)), (3, v), (4, .slice (some ⟨gr, 0, none⟩) l.sn l.sn), (5, .slice la (allRows l).length ca), (6, .int .i64 i), (7, .slice sa (seatsS r).length sc)] a' ∧ Hid (RvE w0 w' l gl gr la ca ∧ RvO w0 w' v (svF (reachS l.aisles l.doors) l i ++ filF (allRows l) (fun x => shareB r x) (fun x => ⟨13, r.at', x.at'⟩) i) ∧ OwnR w0 w' sa sc ((seatsS r).map (seatRow r)))) (fun KAk hKAk => ?_) ?_
  ·
   skip
   revert hF;refine zrs [2] [1, 3, 4, 5, 6, 7, 8] fun a hF => ?_
   refine wp_block ?_
   refine loop_fr (fun qk a' w' => ∃ k : Nat, k + qk = i ∧ ∃ v : Value, FrF 399 [] [(1, .pointer (some ⟨gl, 0, none⟩)), (3, v), (4, .slice (some ⟨gr, 0, none⟩) l.sn l.sn), (5, .slice la (allRows l).length ca), (6, .int .i64 i), (7, .slice sa (seatsS r).length sc), (8, .int .i64 k)] a' ∧ Hid (RvE w0 w' l gl gr la ca ∧ RvO w0 w' v (svF (reachS l.aisles l.doors) l i ++ filF (allRows l) (fun x => shareB r x) (fun x => ⟨13, r.at', x.at'⟩) k) ∧ OwnR w0 w' sa sc ((seatsS r).map (seatRow r)))) (i) ⟨0, by omega, _, hF, HS4⟩ ?_
   clear hF HS4
   rintro rkk a w5 ⟨k, hikk, v, hF, HS⟩ KBk hKBk
   refine wp_seq_k (fun K hK => ?_)
   by_cases hlt : k < i
   rotate_left
   ·
    have hlti : ¬ (k : Int) < (i : Nat) := by omega

    revert hF;refine zrs [1, 1, 5] [1, 3, 4, 5, 6, 7, 8, 46] fun a hF => ?_
    refine cond_no hF rfl ?_
    refine wp_exit ?_
    have hie : k = i := by omega
    rw [hie] at HS
    exact hKAk _ _ ⟨_, hF.sub ⟨rfl, rfl, rfl, rfl, rfl, rfl, trivial⟩, HS⟩
   have hlti : (k : Int) < (i : Nat) := by omega

   revert hF;refine zrs [1, 1, 5] [1, 3, 4, 5, 6, 7, 8, 46] fun a hF => ?_
   refine cond_yes hF rfl ?_
   refine wp_skip ?_
   refine hK _ _ ?_;clear hK;replace hF := hF.kp [1, 3, 4, 5, 6, 7, 8] rfl
   clear hKAk
   refine seq_cut (fun a' w' => ∃ v : Value, FrF 399 [] [(1, .pointer (some ⟨gl, 0, none⟩)), (3, v), (4, .slice (some ⟨gr, 0, none⟩) l.sn l.sn), (5, .slice la (allRows l).length ca), (6, .int .i64 i), (7, .slice sa (seatsS r).length sc), (8, .int .i64 k)] a' ∧ Hid (RvE w0 w' l gl gr la ca ∧ RvO w0 w' v (svF (reachS l.aisles l.doors) l i ++ filF (allRows l) (fun x => shareB r x) (fun x => ⟨13, r.at', x.at'⟩) (k + 1)) ∧ OwnR w0 w' sa sc ((seatsS r).map (seatRow r)))) (fun KCk hKCk => ?_) ?_
   rotate_left
   ·
    clear hF HS
    rintro a w' ⟨v, hF, HS⟩
    have hws : IntKind.i64.wrap ((k : Int) + 1) = ((k + 1 : Nat) : Int) := wrap_succ (by omega)
    revert hF;refine zrg [1, 4, 2] [1, 3, 4, 5, 6, 7, 8] fun a hF => ?_
    exact hKBk (i - (k + 1)) _ _ (by omega) ⟨k + 1, by omega, _, hF, HS⟩
   clear hKBk hikk
   refine wp_block ?_
   have hks : k < (allRows l).length := by have := hil; omega
   obtain ⟨x, hx⟩ : ∃ x, x = (allRows l)[k] := ⟨_, rfl⟩
   have HXI : Hid (x.In w0) := by rw [hx]; exact HRI.out _ (List.getElem_mem hks)
   have HXO : Hid (RowOk x) := by rw [hx]; exact HRO.out _ (List.getElem_mem hks)
   have hnx := filF_next (p := fun x => shareB r x) (f := fun x => (⟨13, r.at', x.at'⟩ : FaultR)) hks
   rw [← hx] at hnx
   rw [hnx, ← List.append_assoc] at hKCk
   clear hnx
   have HXE := Lib.hid hx
   clear hx
   have hsx := seats_len HXO.out
   refine wp_seq_k (fun K hK => ?_)
   obtain ⟨bb, obb, hbb, f0, f1, f2, f3, f4, f5, f6, f7⟩ := row_at HS.out.1.all.recs k hks hks
   rw [← HXE.out] at f0 f1 f2 f3 f4 f5 f6 f7
   have HLA := Lib.hid hbb
   rw [hbb] at hF
   clear hbb
   have hki : (k : Int) < ((allRows l).length : Nat) := by omega
   revert hF;refine zrp [1, 1, 5, 4] [4, 5] fun a hF => ?_;revert hF;refine zos fun K hK => ?_
   refine (rseats_any w5 x (HXI.out.below HS.out.1.below) HXO.out).mono ?_
   rintro e w6 ⟨v', rfl, hb6, ho6⟩
   clear f0 f1 f2 f3 f4 f5 f6 f7
   have ho7 := own_mono (B' := w0.heap.size) ho6 HS.out.1.below.size
   rw [← List.length_map (f := seatRow x)] at ho7
   obtain ⟨ta, tc, rfl, ho8⟩ := OwnR.of ho7
   have HS5 : Hid (RvE w0 w6 l gl gr la ca ∧ RvO w0 w6 v (svF (reachS l.aisles l.doors) l i ++ filF (allRows l) (fun x => shareB r x) (fun x => ⟨13, r.at', x.at'⟩) k) ∧ OwnR w0 w6 sa sc ((seatsS r).map (seatRow r)) ∧ OwnR w0 w6 ta tc ((seatsS x).map (seatRow x))) := ⟨HS.out.1.down hb6, HS.out.2.1.down hb6, HS.out.2.2.down hb6, ho8⟩
   clear HS hb6 ho6 ho7 ho8
   refine hK _ _ (fun a hF => ?_);clear hK K;revert hF;refine zre 5 [2] [1, 3, 4, 5, 6, 7, 8, 9] fun a hF => ?_;refine hK _ _ ?_;clear hK
   (try simp only [List.length_map] at hF)
   rw [← HLA.out] at hF
   clear HLA
   revert hF;refine zrs [2] [1, 3, 4, 5, 6, 7, 8, 9, 10] fun a hF => ?_
   rw [← shA_zero r x] at hF
   refine seq_cut (fun a' w' => FrF 399 [] [(1, .pointer (some ⟨gl, 0, none⟩)), (3, v), (4, .slice (some ⟨gr, 0, none⟩) l.sn l.sn), (5, .slice la (allRows l).length ca), (6, .int .i64 i), (7, .slice sa (seatsS r).length sc), (8, .int .i64 k), (9, .slice ta (seatsS x).length tc), (10, .bool (shA r x (seatsS r).length))] a' ∧ Hid (RvE w0 w' l gl gr la ca ∧ RvO w0 w' v (svF (reachS l.aisles l.doors) l i ++ filF (allRows l) (fun x => shareB r x) (fun x => ⟨13, r.at', x.at'⟩) k) ∧ OwnR w0 w' sa sc ((seatsS r).map (seatRow r)) ∧ OwnR w0 w' ta tc ((seatsS x).map (seatRow x)))) (fun KAm hKAm => ?_) ?_
   ·
    skip
    revert hF;refine zrs [2] [1, 3, 4, 5, 6, 7, 8, 9, 10, 11] fun a hF => ?_
    refine wp_block ?_
    refine loop_fr (fun qm a' w' => ∃ m : Nat, m + qm = (seatsS r).length ∧ FrF 399 [] [(1, .pointer (some ⟨gl, 0, none⟩)), (3, v), (4, .slice (some ⟨gr, 0, none⟩) l.sn l.sn), (5, .slice la (allRows l).length ca), (6, .int .i64 i), (7, .slice sa (seatsS r).length sc), (8, .int .i64 k), (9, .slice ta (seatsS x).length tc), (10, .bool (shA r x m)), (11, .int .i64 m)] a' ∧ Hid (RvE w0 w' l gl gr la ca ∧ RvO w0 w' v (svF (reachS l.aisles l.doors) l i ++ filF (allRows l) (fun x => shareB r x) (fun x => ⟨13, r.at', x.at'⟩) k) ∧ OwnR w0 w' sa sc ((seatsS r).map (seatRow r)) ∧ OwnR w0 w' ta tc ((seatsS x).map (seatRow x)))) ((seatsS r).length) ⟨0, by omega, hF, HS5⟩ ?_
    clear hF HS5
    rintro rkm a w6 ⟨m, hikm, hF, HS⟩ KBm hKBm
    refine wp_seq_k (fun K hK => ?_)
    by_cases hlt : m < (seatsS r).length
    rotate_left
    ·
     have hlti : ¬ (m : Int) < ((seatsS r).length : Nat) := by omega

     revert hF;refine zrs [1, 1, 4, 5] [1, 3, 4, 5, 6, 7, 8, 9, 10, 11, 57] fun a hF => ?_
     refine cond_no hF rfl ?_
     refine wp_exit ?_
     have hie : m = (seatsS r).length := by simp at hlt hikm; omega
     rw [hie] at hF
     exact hKAm _ _ ⟨hF.sub ⟨rfl, rfl, rfl, rfl, rfl, rfl, rfl, rfl, rfl, trivial⟩, HS⟩
    have hlti : (m : Int) < ((seatsS r).length : Nat) := by omega

    revert hF;refine zrs [1, 1, 4, 5] [1, 3, 4, 5, 6, 7, 8, 9, 10, 11, 57] fun a hF => ?_
    refine cond_yes hF rfl ?_
    refine wp_skip ?_
    refine hK _ _ ?_;clear hK;replace hF := hF.kp [1, 3, 4, 5, 6, 7, 8, 9, 10, 11] rfl
    clear hKAm
    refine seq_cut (fun a' w' => FrF 399 [] [(1, .pointer (some ⟨gl, 0, none⟩)), (3, v), (4, .slice (some ⟨gr, 0, none⟩) l.sn l.sn), (5, .slice la (allRows l).length ca), (6, .int .i64 i), (7, .slice sa (seatsS r).length sc), (8, .int .i64 k), (9, .slice ta (seatsS x).length tc), (10, .bool (shA r x (m + 1))), (11, .int .i64 m)] a' ∧ Hid (RvE w0 w' l gl gr la ca ∧ RvO w0 w' v (svF (reachS l.aisles l.doors) l i ++ filF (allRows l) (fun x => shareB r x) (fun x => ⟨13, r.at', x.at'⟩) k) ∧ OwnR w0 w' sa sc ((seatsS r).map (seatRow r)) ∧ OwnR w0 w' ta tc ((seatsS x).map (seatRow x)))) (fun KCm hKCm => ?_) ?_
    rotate_left
    ·
     clear hF HS
     rintro a w' ⟨hF, HS⟩
     have hws : IntKind.i64.wrap ((m : Int) + 1) = ((m + 1 : Nat) : Int) := wrap_succ (by omega)
     revert hF;refine zrg [1, 4, 2] [1, 3, 4, 5, 6, 7, 8, 9, 10, 11] fun a hF => ?_
     exact hKBm ((seatsS r).length - (m + 1)) _ _ (by omega) ⟨m + 1, by omega, hF, HS⟩
    clear hKBm hikm
    refine wp_block ?_
    have hms : m < (seatsS r).length := by simpa using hlt
    rw [shA_next hms] at hKCm
    obtain ⟨p, hp⟩ : ∃ p, p = (seatsS r)[m] := ⟨_, rfl⟩
    have HP := Lib.hid hp
    rw [← hp] at hKCm
    clear hp
    have HS0 := HS
    clear HS
    rw [← Bool.or_false (shA r x m), ← shB_zero r x p] at hF
    revert hF;refine zrs [2] [1, 3, 4, 5, 6, 7, 8, 9, 10, 11, 12] fun a hF => ?_
    refine wp_block ?_
    refine loop_fr (fun qn a' w' => ∃ n : Nat, n + qn = (seatsS x).length ∧ FrF 399 [] [(1, .pointer (some ⟨gl, 0, none⟩)), (3, v), (4, .slice (some ⟨gr, 0, none⟩) l.sn l.sn), (5, .slice la (allRows l).length ca), (6, .int .i64 i), (7, .slice sa (seatsS r).length sc), (8, .int .i64 k), (9, .slice ta (seatsS x).length tc), (10, .bool (shA r x m || shB r x p n)), (11, .int .i64 m), (12, .int .i64 n)] a' ∧ Hid (RvE w0 w' l gl gr la ca ∧ RvO w0 w' v (svF (reachS l.aisles l.doors) l i ++ filF (allRows l) (fun x => shareB r x) (fun x => ⟨13, r.at', x.at'⟩) k) ∧ OwnR w0 w' sa sc ((seatsS r).map (seatRow r)) ∧ OwnR w0 w' ta tc ((seatsS x).map (seatRow x)))) ((seatsS x).length) ⟨0, by omega, hF, HS0⟩ ?_
    clear hF HS0
    rintro rkn a wr ⟨n, hikn, hF, HS⟩ KBn hKBn
    refine wp_seq_k (fun K hK => ?_)
    by_cases hlt : n < (seatsS x).length
    rotate_left
    ·
     have hlti : ¬ (n : Int) < ((seatsS x).length : Nat) := by omega

     revert hF;refine zrs [1, 1, 4, 5] [1, 3, 4, 5, 6, 7, 8, 9, 10, 11, 12, 63] fun a hF => ?_
     refine cond_no hF rfl ?_
     refine wp_exit ?_
     have hie : n = (seatsS x).length := by simp at hlt hikn; omega
     rw [hie] at hF
     exact hKCm _ _ ⟨hF.sub ⟨rfl, rfl, rfl, rfl, rfl, rfl, rfl, rfl, rfl, rfl, trivial⟩, HS⟩
    have hlti : (n : Int) < ((seatsS x).length : Nat) := by omega

    revert hF;refine zrs [1, 1, 4, 5] [1, 3, 4, 5, 6, 7, 8, 9, 10, 11, 12, 63] fun a hF => ?_
    refine cond_yes hF rfl ?_
    refine wp_skip ?_
    refine hK _ _ ?_;clear hK;replace hF := hF.kp [1, 3, 4, 5, 6, 7, 8, 9, 10, 11, 12] rfl

    refine seq_cut (fun a' w' => FrF 399 [] [(1, .pointer (some ⟨gl, 0, none⟩)), (3, v), (4, .slice (some ⟨gr, 0, none⟩) l.sn l.sn), (5, .slice la (allRows l).length ca), (6, .int .i64 i), (7, .slice sa (seatsS r).length sc), (8, .int .i64 k), (9, .slice ta (seatsS x).length tc), (10, .bool (shA r x m || shB r x p (n + 1))), (11, .int .i64 m), (12, .int .i64 n)] a' ∧ Hid (RvE w0 w' l gl gr la ca ∧ RvO w0 w' v (svF (reachS l.aisles l.doors) l i ++ filF (allRows l) (fun x => shareB r x) (fun x => ⟨13, r.at', x.at'⟩) k) ∧ OwnR w0 w' sa sc ((seatsS r).map (seatRow r)) ∧ OwnR w0 w' ta tc ((seatsS x).map (seatRow x)))) (fun KCn hKCn => ?_) ?_
    rotate_left
    ·
     clear hF HS
     rintro a w' ⟨hF, HS⟩
     have hws : IntKind.i64.wrap ((n : Int) + 1) = ((n + 1 : Nat) : Int) := wrap_succ (by omega)
     revert hF;refine zrg [1, 4, 2] [1, 3, 4, 5, 6, 7, 8, 9, 10, 11, 12] fun a hF => ?_
     exact hKBn ((seatsS x).length - (n + 1)) _ _ (by omega) ⟨n + 1, by omega, hF, HS⟩
    clear hKBn hikn
    refine wp_block ?_
    have hns : n < (seatsS x).length := by simpa using hlt
    have HNX := Lib.hid (shB_next (r := r) (x := x) (p := p) hns)
    rw [HNX.out, ← Bool.or_assoc] at hKCn
    obtain ⟨q, hq⟩ : ∃ q, q = (seatsS x)[n] := ⟨_, rfl⟩
    have HQ := Lib.hid hq
    rw [← hq] at hKCn
    clear hq HNX
    obtain ⟨c, hc⟩ : ∃ c, c = (shA r x m || shB r x p n) := ⟨_, rfl⟩
    rw [← hc] at hF hKCn
    clear hc
    have HSd : Hid (RvE w0 wr.drew l gl gr la ca ∧ RvO w0 wr.drew v (svF (reachS l.aisles l.doors) l i ++ filF (allRows l) (fun x => shareB r x) (fun x => ⟨13, r.at', x.at'⟩) k) ∧ OwnR w0 wr.drew sa sc ((seatsS r).map (seatRow r)) ∧ OwnR w0 wr.drew ta tc ((seatsS x).map (seatRow x))) := ⟨HS.out.1.down (below_d (Below.refl _ _)), HS.out.2.1.down (below_d (Below.refl _ _)), HS.out.2.2.1.down (below_d (Below.refl _ _)), HS.out.2.2.2.down (below_d (Below.refl _ _))⟩
    clear HS
    have HSW : Hid (RvE w0 wr.drew l gl gr la ca ∧ RvO w0 wr.drew v (svF (reachS l.aisles l.doors) l i ++ filF (allRows l) (fun x => shareB r x) (fun x => ⟨13, r.at', x.at'⟩) k) ∧ OwnR w0 wr.drew sa sc ((seatsS r).map (seatRow r)) ∧ OwnR w0 wr.drew ta tc ((seatsS x).map (seatRow x))) := HSd
    cases c
    rotate_left
    ·
     refine region_any (by kernel_rfl) ?_;revert hF;refine zrb (fuel := 0) [1, 33, 64, 96, 128, 160, 208, 224, 256, 288, 320, 368, 384, 416, 448, 480, 512, 544, 592, 608, 640, 672, 704, 752, 768, 800, 842, 866] [1, 3, 4, 5, 6, 7, 8, 9, 10, 11, 12] fun a hF => ?_
     exact hKCn _ _ ⟨hF, HSd⟩
    have hmi : (m : Int) < ((seatsS r).length : Nat) := by omega
    obtain ⟨ba, oba, hba, e0, e1, e2, e3, e4, e5, e6, e7⟩ := row_at HSd.out.2.2.1.recs m (by simpa using hms) (by simpa using hms)
    simp only [List.getElem_map, seatRow] at e1 e2
    obtain ⟨bb, obb, hbb, f0, f1, f2, f3, f4, f5, f6, f7⟩ := row_at HSd.out.2.2.2.recs n (by simpa using hlt) (by simpa using hlt)
    simp only [List.getElem_map, seatRow] at f1 f2
    have hqx : (seatsS x)[n].2 = q.2 := by rw [HQ.out]
    have hpx : (seatsS r)[m].2 = p.2 := by rw [HP.out]
    rw [hpx] at e1
    rw [hqx] at f1
    clear hqx hpx
    subst hba
    subst hbb
    by_cases hx : p.2 = q.2
    rotate_left
    ·
     have hxe : (p.2 == q.2) = false := by simp [hx]
     have hd : (decide (p.2 = q.2) && decide (r.y = x.y)) = false := by simp [hx]
     rw [hd] at hKCn
     clear hd hx
     refine region_any (by kernel_rfl) ?_;revert hF;refine zrb (fuel := 0) [1, 33, 65, 97, 138, 169, 212, 225, 257, 298, 329, 372, 394, 417, 448, 480, 512, 544, 592, 608, 640, 672, 704, 752, 768, 810, 842, 866] [1, 3, 4, 5, 6, 7, 8, 9, 10, 11, 12] fun a hF => ?_
     exact hKCn _ _ ⟨hF, HSd⟩
    have hxe : (p.2 == q.2) = true := by simp [hx]
    obtain ⟨d, hd⟩ : ∃ d, d = (r.y == x.y) := ⟨_, rfl⟩
    have hde : (decide (p.2 = q.2) && decide (r.y = x.y)) = d := by
     rw [hd, decide_eq_true hx, Bool.true_and]
     by_cases hyy : r.y = x.y <;> simp [hyy]
    rw [hde] at hKCn
    have hye : (r.y == x.y) = d := hd.symm
    clear hd hde hx
    refine region_any (by kernel_rfl) ?_;revert hF;refine zrb (fuel := 0) [1, 33, 65, 97, 138, 169, 212, 225, 257, 298, 329, 372, 394, 417, 449, 481, 522, 553, 596, 609, 641, 682, 713, 756, 778, 810, 842, 866] [1, 3, 4, 5, 6, 7, 8, 9, 10, 11, 12] fun a hF => ?_
    exact hKCn _ _ ⟨hF, HSd⟩
   clear hF HS5
   rintro a w10 ⟨hF, HS⟩
   rw [shA_all] at hF
   revert hF;refine zrs [1] [1, 3, 4, 5, 6, 7, 8, 93] fun a hF => ?_
   obtain ⟨t, ht⟩ : ∃ t, t = shareB r x := ⟨_, rfl⟩
   rw [← ht] at hF hKCk
   clear ht
   cases t
   ·
    refine cond_no hF rfl ?_
    refine wp_skip ?_
    rw [if_neg (by decide), List.append_nil] at hKCk
    exact hKCk _ _ ⟨_, hF.sub ⟨rfl, rfl, rfl, rfl, rfl, rfl, rfl, trivial⟩, HS.out.1, HS.out.2.1, HS.out.2.2.1⟩
   refine cond_yes hF rfl ?_
   rw [if_pos rfl] at hKCk
   have HSd : Hid (RvE w0 w10.drew l gl gr la ca ∧ RvO w0 w10.drew v (svF (reachS l.aisles l.doors) l i ++ filF (allRows l) (fun x => shareB r x) (fun x => ⟨13, r.at', x.at'⟩) k) ∧ OwnR w0 w10.drew sa sc ((seatsS r).map (seatRow r)) ∧ OwnR w0 w10.drew ta tc ((seatsS x).map (seatRow x))) := ⟨HS.out.1.down (below_d (Below.refl _ _)), HS.out.2.1.down (below_d (Below.refl _ _)), HS.out.2.2.1.down (below_d (Below.refl _ _)), HS.out.2.2.2.down (below_d (Below.refl _ _))⟩
   clear HS
   obtain ⟨bb, obb, hbb, f0, f1, f2, f3, f4, f5, f6, f7⟩ := row_at HSd.out.1.all.recs k hks hks
   rw [← HXE.out] at f0 f1 f2 f3 f4 f5 f6 f7
   obtain ⟨ba, oba, hba, e0, e1, e2, e3, e4, e5, e6, e7⟩ := row_at HSd.out.1.all.recs i hil hil
   rw [← HRE.out] at e0 e1 e2 e3 e4 e5 e6 e7
   have HLA := Lib.hid hbb
   rw [hbb] at hF hba
   clear hbb
   cases hba
   have hki : (k : Int) < ((allRows l).length : Nat) := by omega
   have hii : (i : Int) < ((allRows l).length : Nat) := by omega
   refine region_any (by kernel_rfl) ?_;revert hF;refine zra (fuel := 4) [1, 33, 65, 106, 137, 180, 193, 225, 266, 297, 340] [11, 12, 13] fun a hF => ?_;refine any_one (n := 11) (fuel := 3) (by kernel_rfl) ?_;revert hF;refine zoc fun K hK => ?_
   refine (rfault_any _ ⟨13, r.at', x.at'⟩).mono ?_
   rintro e wf ⟨rfl, hbf⟩
   clear e0 e1 e2 e3 e4 e5 e6 e7 f0 f1 f2 f3 f4 f5 f6 f7
   have HS11 : Hid (RvE w0 wf l gl gr la ca ∧ RvO w0 wf v (svF (reachS l.aisles l.doors) l i ++ filF (allRows l) (fun x => shareB r x) (fun x => ⟨13, r.at', x.at'⟩) k) ∧ OwnR w0 wf sa sc ((seatsS r).map (seatRow r))) := ⟨HSd.out.1.down hbf, HSd.out.2.1.down hbf, HSd.out.2.2.1.down hbf⟩
   clear HSd hbf
   refine hK _ _ (fun a hF => ?_);clear hK K;refine any_one (n := 12) (fuel := 2) (by kernel_rfl) ?_;revert hF;refine qe1 fun a hF => ?_
   obtain ⟨v', wz, hAPP, hbz, hoz, htz⟩ := rv_app ⟨13, r.at', x.at'⟩ HS11.out.1.below HS11.out.2.1 (HBD.out k)
   have HSz : Hid (RvE w0 wz l gl gr la ca ∧ RvO w0 wz v' (svF (reachS l.aisles l.doors) l i ++ filF (allRows l) (fun x => shareB r x) (fun x => ⟨13, r.at', x.at'⟩) k ++ [⟨13, r.at', x.at'⟩]) ∧ OwnR w0 wz sa sc ((seatsS r).map (seatRow r))) := ⟨HS11.out.1.tupd hbz htz, hoz, HS11.out.2.2.tupd htz⟩
   clear HS11 hbz hoz htz
   refine any_one (n := 13) (fuel := 1) (by kernel_rfl) ?_;refine op_append rfl rfl rfl rfl rfl hF rfl rfl rfl hAPP (fun a hF => ?_);clear hAPP;revert hF;refine zrb (fuel := 0) [450] [1, 3, 4, 5, 6, 7, 8] fun a hF => ?_
   rw [← HLA.out] at hF
   exact hKCk _ _ ⟨_, hF, HSz.out.1, HSz.out.2.1, HSz.out.2.2⟩
  clear hF HS4
  rintro a w12 ⟨v, hF, HS⟩
  have HS12 := HS
  clear HS
  revert hF;refine zrs [2] [1, 3, 4, 5, 6, 7, 13] fun a hF => ?_
  have hz : blA l r 0 = false := rfl
  rw [← hz] at hF
  clear hz
  refine seq_cut (fun a' w' => FrF 399 [] [(1, .pointer (some ⟨gl, 0, none⟩)), (3, v), (4, .slice (some ⟨gr, 0, none⟩) l.sn l.sn), (5, .slice la (allRows l).length ca), (6, .int .i64 i), (7, .slice sa (seatsS r).length sc), (13, .bool (blA l r (seatsS r).length))] a' ∧ Hid (RvE w0 w' l gl gr la ca ∧ RvO w0 w' v (svF (reachS l.aisles l.doors) l i ++ filF (allRows l) (fun x => shareB r x) (fun x => ⟨13, r.at', x.at'⟩) i) ∧ OwnR w0 w' sa sc ((seatsS r).map (seatRow r)))) (fun KAb hKAb => ?_) ?_
  ·
   skip
   revert hF;refine zrs [2] [1, 3, 4, 5, 6, 7, 13, 14] fun a hF => ?_
   refine wp_block ?_
   refine loop_fr (fun qb a' w' => ∃ m : Nat, m + qb = (seatsS r).length ∧ FrF 399 [] [(1, .pointer (some ⟨gl, 0, none⟩)), (3, v), (4, .slice (some ⟨gr, 0, none⟩) l.sn l.sn), (5, .slice la (allRows l).length ca), (6, .int .i64 i), (7, .slice sa (seatsS r).length sc), (13, .bool (blA l r m)), (14, .int .i64 m)] a' ∧ Hid (RvE w0 w' l gl gr la ca ∧ RvO w0 w' v (svF (reachS l.aisles l.doors) l i ++ filF (allRows l) (fun x => shareB r x) (fun x => ⟨13, r.at', x.at'⟩) i) ∧ OwnR w0 w' sa sc ((seatsS r).map (seatRow r)))) ((seatsS r).length) ⟨0, by omega, hF, HS12⟩ ?_
   clear hF HS12
   rintro rkb a w13 ⟨m, hikb, hF, HS⟩ KBb hKBb
   refine wp_seq_k (fun K hK => ?_)
   by_cases hlt : m < (seatsS r).length
   rotate_left
   ·
    have hlti : ¬ (m : Int) < ((seatsS r).length : Nat) := by omega

    revert hF;refine zrs [1, 1, 4, 5] [1, 3, 4, 5, 6, 7, 13, 14, 111] fun a hF => ?_
    refine cond_no hF rfl ?_
    refine wp_exit ?_
    have hie : m = (seatsS r).length := by simp at hlt hikb; omega
    rw [hie] at hF
    exact hKAb _ _ ⟨hF.sub ⟨rfl, rfl, rfl, rfl, rfl, rfl, rfl, trivial⟩, HS⟩
   have hlti : (m : Int) < ((seatsS r).length : Nat) := by omega

   revert hF;refine zrs [1, 1, 4, 5] [1, 3, 4, 5, 6, 7, 13, 14, 111] fun a hF => ?_
   refine cond_yes hF rfl ?_
   refine wp_skip ?_
   refine hK _ _ ?_;clear hK;replace hF := hF.kp [1, 3, 4, 5, 6, 7, 13, 14] rfl
   clear hKAb
   refine seq_cut (fun a' w' => FrF 399 [] [(1, .pointer (some ⟨gl, 0, none⟩)), (3, v), (4, .slice (some ⟨gr, 0, none⟩) l.sn l.sn), (5, .slice la (allRows l).length ca), (6, .int .i64 i), (7, .slice sa (seatsS r).length sc), (13, .bool (blA l r (m + 1))), (14, .int .i64 m)] a' ∧ Hid (RvE w0 w' l gl gr la ca ∧ RvO w0 w' v (svF (reachS l.aisles l.doors) l i ++ filF (allRows l) (fun x => shareB r x) (fun x => ⟨13, r.at', x.at'⟩) i) ∧ OwnR w0 w' sa sc ((seatsS r).map (seatRow r)))) (fun KCb hKCb => ?_) ?_
   rotate_left
   ·
    clear hF HS
    rintro a w' ⟨hF, HS⟩
    have hws : IntKind.i64.wrap ((m : Int) + 1) = ((m + 1 : Nat) : Int) := wrap_succ (by omega)
    revert hF;refine zrg [1, 4, 2] [1, 3, 4, 5, 6, 7, 13, 14] fun a hF => ?_
    exact hKBb ((seatsS r).length - (m + 1)) _ _ (by omega) ⟨m + 1, by omega, hF, HS⟩
   clear hKBb hikb
   refine wp_block ?_
   have hmt := hlt
   have hms : m < (seatsS r).length := by simpa using hlt
   rw [blA_next hms, ← Bool.or_assoc] at hKCb
   obtain ⟨p, hp⟩ : ∃ p, p = (seatsS r)[m] := ⟨_, rfl⟩
   have HP := Lib.hid hp
   rw [← hp] at hKCb
   clear hp
   have HS0 := HS
   clear HS hlt
   have hz : (blA l r m || blP l r p 0) = blA l r m := Bool.or_false _
   rw [← hz] at hF
   clear hz
   refine seq_cut (fun a' w' => FrF 399 [] [(1, .pointer (some ⟨gl, 0, none⟩)), (3, v), (4, .slice (some ⟨gr, 0, none⟩) l.sn l.sn), (5, .slice la (allRows l).length ca), (6, .int .i64 i), (7, .slice sa (seatsS r).length sc), (13, .bool (blA l r m || blP l r p l.pillars.length)), (14, .int .i64 m)] a' ∧ Hid (RvE w0 w' l gl gr la ca ∧ RvO w0 w' v (svF (reachS l.aisles l.doors) l i ++ filF (allRows l) (fun x => shareB r x) (fun x => ⟨13, r.at', x.at'⟩) i) ∧ OwnR w0 w' sa sc ((seatsS r).map (seatRow r)))) (fun KAx hKAx => ?_) ?_
   ·
    skip
    revert hF;refine zrs [2] [1, 3, 4, 5, 6, 7, 13, 14, 15] fun a hF => ?_
    refine wp_block ?_
    refine loop_fr (fun qx a' w' => ∃ n : Nat, n + qx = l.pn ∧ FrF 399 [] [(1, .pointer (some ⟨gl, 0, none⟩)), (3, v), (4, .slice (some ⟨gr, 0, none⟩) l.sn l.sn), (5, .slice la (allRows l).length ca), (6, .int .i64 i), (7, .slice sa (seatsS r).length sc), (13, .bool (blA l r m || blP l r p n)), (14, .int .i64 m), (15, .int .i64 n)] a' ∧ Hid (RvE w0 w' l gl gr la ca ∧ RvO w0 w' v (svF (reachS l.aisles l.doors) l i ++ filF (allRows l) (fun x => shareB r x) (fun x => ⟨13, r.at', x.at'⟩) i) ∧ OwnR w0 w' sa sc ((seatsS r).map (seatRow r)))) (l.pn) ⟨0, by omega, hF, HS0⟩ ?_
    clear hF HS0
    rintro rkx a wr ⟨n, hikx, hF, HS⟩ KBx hKBx
    refine wp_seq_k (fun K hK => ?_)
    by_cases hlt : n < l.pn
    rotate_left
    ·
     have hlti : ¬ (n : Int) < (l.pn : Nat) := by omega
     obtain ⟨q0, q1, q2, q3, q4, q5, q6, q7⟩ := HS.out.1.arg.cells
     revert hF;refine zrs [1, 4, 4, 4, 5] [1, 3, 4, 5, 6, 7, 13, 14, 15, 118] fun a hF => ?_
     clear q0 q1 q2 q3 q4 q5 q6 q7
     refine cond_no hF rfl ?_
     refine wp_exit ?_
     have hie : n = l.pillars.length := by rw [HPN.out]; omega
     rw [hie] at hF
     exact hKAx _ _ ⟨hF.sub ⟨rfl, rfl, rfl, rfl, rfl, rfl, rfl, rfl, trivial⟩, HS⟩
    have hlti : (n : Int) < (l.pn : Nat) := by omega
    obtain ⟨q0, q1, q2, q3, q4, q5, q6, q7⟩ := HS.out.1.arg.cells
    revert hF;refine zrs [1, 4, 4, 4, 5] [1, 3, 4, 5, 6, 7, 13, 14, 15, 118] fun a hF => ?_
    clear q0 q1 q2 q3 q4 q5 q6 q7
    refine cond_yes hF rfl ?_
    refine wp_skip ?_
    refine hK _ _ ?_;clear hK;replace hF := hF.kp [1, 3, 4, 5, 6, 7, 13, 14, 15] rfl
    clear hKAx
    refine seq_cut (fun a' w' => FrF 399 [] [(1, .pointer (some ⟨gl, 0, none⟩)), (3, v), (4, .slice (some ⟨gr, 0, none⟩) l.sn l.sn), (5, .slice la (allRows l).length ca), (6, .int .i64 i), (7, .slice sa (seatsS r).length sc), (13, .bool (blA l r m || blP l r p (n + 1))), (14, .int .i64 m), (15, .int .i64 n)] a' ∧ Hid (RvE w0 w' l gl gr la ca ∧ RvO w0 w' v (svF (reachS l.aisles l.doors) l i ++ filF (allRows l) (fun x => shareB r x) (fun x => ⟨13, r.at', x.at'⟩) i) ∧ OwnR w0 w' sa sc ((seatsS r).map (seatRow r)))) (fun KCx hKCx => ?_) ?_
    rotate_left
    ·
     clear hF HS
     rintro a w' ⟨hF, HS⟩
     have hws : IntKind.i64.wrap ((n : Int) + 1) = ((n + 1 : Nat) : Int) := wrap_succ (by omega)
     revert hF;refine zrg [1, 4, 2] [1, 3, 4, 5, 6, 7, 13, 14, 15] fun a hF => ?_
     exact hKBx (l.pn - (n + 1)) _ _ (by omega) ⟨n + 1, by omega, hF, HS⟩
    clear hKBx hikx
    refine wp_block ?_
    have hns : n < l.pillars.length := by rw [HPN.out]; exact hlt
    rw [blP_next hns, ← Bool.or_assoc] at hKCx
    obtain ⟨bx1, hbx⟩ : ∃ b, b = l.pillars[n] := ⟨_, rfl⟩
    have HBX := Lib.hid hbx
    rw [← hbx] at hKCx
    clear hbx
    obtain ⟨c, hc⟩ : ∃ c, c = (blA l r m || blP l r p n) := ⟨_, rfl⟩
    rw [← hc] at hF hKCx
    clear hc
    have HSd : Hid (RvE w0 wr.drew l gl gr la ca ∧ RvO w0 wr.drew v (svF (reachS l.aisles l.doors) l i ++ filF (allRows l) (fun x => shareB r x) (fun x => ⟨13, r.at', x.at'⟩) i) ∧ OwnR w0 wr.drew sa sc ((seatsS r).map (seatRow r))) := ⟨HS.out.1.down (below_d (Below.refl _ _)), HS.out.2.1.down (below_d (Below.refl _ _)), HS.out.2.2.down (below_d (Below.refl _ _))⟩
    clear HS
    cases c
    rotate_left
    ·
     refine region_any (by kernel_rfl) ?_;revert hF;refine zrb (fuel := 0) [1, 33, 64, 96, 128, 160, 208, 224, 256, 288, 320, 368, 384, 432, 448, 480, 528, 560, 586, 610] [1, 3, 4, 5, 6, 7, 13, 14, 15] fun a hF => ?_
     exact hKCx _ _ ⟨hF, HSd⟩
    have hmi : (m : Int) < ((seatsS r).length : Nat) := by omega
    obtain ⟨ba, oba, hba, e0, e1, e2, e3, e4, e5, e6, e7⟩ := row_at HSd.out.2.2.recs m (by simpa using hmt) (by simpa using hmt)
    simp only [List.getElem_map, seatRow] at e1 e2
    have hpx : (seatsS r)[m].2 = p.2 := by rw [HP.out]
    rw [hpx] at e1
    have HSA := Lib.hid hba
    rw [hba] at hF
    clear hpx hba
    obtain ⟨q0, q1, q2, q3, q4, q5, q6, q7⟩ := HSd.out.1.arg.cells
    obtain ⟨bb, obb, hbb, b0, b1, b2, b3⟩ := box_at (HL.out.below HSd.out.1.below).pillars n hlt hns
    rw [hbb] at q5
    rw [← HBX.out] at b0 b1 b2 b3
    clear hbb
    refine region_any (by kernel_rfl) ?_;revert hF;refine zra (fuel := 3) [1, 33, 65, 97, 138, 169, 212, 225, 257, 298, 329, 372, 393, 436, 449, 490, 532] [17] fun a hF => ?_;refine any_one (n := 17) (fuel := 2) (by kernel_rfl) ?_;revert hF;refine zoc fun K hK => ?_
    refine (rin_any _ bx1 p.2 r.y).mono ?_
    rintro e wi ⟨rfl, hbi⟩
    clear e0 e1 e2 e3 e4 e5 e6 e7 b0 b1 b2 b3 q0 q1 q2 q3 q4 q5 q6 q7
    have HSi : Hid (RvE w0 wi l gl gr la ca ∧ RvO w0 wi v (svF (reachS l.aisles l.doors) l i ++ filF (allRows l) (fun x => shareB r x) (fun x => ⟨13, r.at', x.at'⟩) i) ∧ OwnR w0 wi sa sc ((seatsS r).map (seatRow r))) := ⟨HSd.out.1.down hbi, HSd.out.2.1.down hbi, HSd.out.2.2.down hbi⟩
    clear HSd hbi
    refine hK _ _ (fun a hF => ?_);clear hK K;revert hF;refine zrb (fuel := 0) [586, 610] [1, 3, 4, 5, 6, 7, 13, 14, 15] fun a hF => ?_
    rw [← HSA.out] at hF
    exact hKCx _ _ ⟨hF, HSi⟩
   clear hF HS0
   rintro a w14 ⟨hF, HS⟩
   have HS0 := HS
   clear HS
   have hz : ((blA l r m || blP l r p l.pillars.length) || blS l r p 0) = (blA l r m || blP l r p l.pillars.length) := Bool.or_false _
   rw [← hz] at hF
   clear hz
   revert hF;refine zrs [2] [1, 3, 4, 5, 6, 7, 13, 14, 16] fun a hF => ?_
   refine wp_block ?_
   refine loop_fr (fun qy a' w' => ∃ n : Nat, n + qy = l.sn ∧ FrF 399 [] [(1, .pointer (some ⟨gl, 0, none⟩)), (3, v), (4, .slice (some ⟨gr, 0, none⟩) l.sn l.sn), (5, .slice la (allRows l).length ca), (6, .int .i64 i), (7, .slice sa (seatsS r).length sc), (13, .bool ((blA l r m || blP l r p l.pillars.length) || blS l r p n)), (14, .int .i64 m), (16, .int .i64 n)] a' ∧ Hid (RvE w0 w' l gl gr la ca ∧ RvO w0 w' v (svF (reachS l.aisles l.doors) l i ++ filF (allRows l) (fun x => shareB r x) (fun x => ⟨13, r.at', x.at'⟩) i) ∧ OwnR w0 w' sa sc ((seatsS r).map (seatRow r)))) (l.sn) ⟨0, by omega, hF, HS0⟩ ?_
   clear hF HS0
   rintro rky a wr ⟨n, hiky, hF, HS⟩ KBy hKBy
   refine wp_seq_k (fun K hK => ?_)
   by_cases hlt : n < l.sn
   rotate_left
   ·
    have hlti : ¬ (n : Int) < (l.sn : Nat) := by omega
    obtain ⟨q0, q1, q2, q3, q4, q5, q6, q7⟩ := HS.out.1.arg.cells
    revert hF;refine zrs [1, 4, 4, 4, 5] [1, 3, 4, 5, 6, 7, 13, 14, 16, 144] fun a hF => ?_
    clear q0 q1 q2 q3 q4 q5 q6 q7
    refine cond_no hF rfl ?_
    refine wp_exit ?_
    have hie : n = l.aisles.length := by rw [HSN.out]; omega
    rw [hie] at hF
    exact hKCb _ _ ⟨hF.sub ⟨rfl, rfl, rfl, rfl, rfl, rfl, rfl, rfl, trivial⟩, HS⟩
   have hlti : (n : Int) < (l.sn : Nat) := by omega
   obtain ⟨q0, q1, q2, q3, q4, q5, q6, q7⟩ := HS.out.1.arg.cells
   revert hF;refine zrs [1, 4, 4, 4, 5] [1, 3, 4, 5, 6, 7, 13, 14, 16, 144] fun a hF => ?_
   clear q0 q1 q2 q3 q4 q5 q6 q7
   refine cond_yes hF rfl ?_
   refine wp_skip ?_
   refine hK _ _ ?_;clear hK;replace hF := hF.kp [1, 3, 4, 5, 6, 7, 13, 14, 16] rfl

   refine seq_cut (fun a' w' => FrF 399 [] [(1, .pointer (some ⟨gl, 0, none⟩)), (3, v), (4, .slice (some ⟨gr, 0, none⟩) l.sn l.sn), (5, .slice la (allRows l).length ca), (6, .int .i64 i), (7, .slice sa (seatsS r).length sc), (13, .bool ((blA l r m || blP l r p l.pillars.length) || blS l r p (n + 1))), (14, .int .i64 m), (16, .int .i64 n)] a' ∧ Hid (RvE w0 w' l gl gr la ca ∧ RvO w0 w' v (svF (reachS l.aisles l.doors) l i ++ filF (allRows l) (fun x => shareB r x) (fun x => ⟨13, r.at', x.at'⟩) i) ∧ OwnR w0 w' sa sc ((seatsS r).map (seatRow r)))) (fun KCy hKCy => ?_) ?_
   rotate_left
   ·
    clear hF HS
    rintro a w' ⟨hF, HS⟩
    have hws : IntKind.i64.wrap ((n : Int) + 1) = ((n + 1 : Nat) : Int) := wrap_succ (by omega)
    revert hF;refine zrg [1, 4, 2] [1, 3, 4, 5, 6, 7, 13, 14, 16] fun a hF => ?_
    exact hKBy (l.sn - (n + 1)) _ _ (by omega) ⟨n + 1, by omega, hF, HS⟩
   clear hKBy hiky
   refine wp_block ?_
   have hns : n < l.aisles.length := by rw [HSN.out]; exact hlt
   rw [blS_next hns, ← Bool.or_assoc] at hKCy
   obtain ⟨bx1, hbx⟩ : ∃ b, b = l.aisles[n] := ⟨_, rfl⟩
   have HBX := Lib.hid hbx
   rw [← hbx] at hKCy
   clear hbx
   obtain ⟨c, hc⟩ : ∃ c, c = ((blA l r m || blP l r p l.pillars.length) || blS l r p n) := ⟨_, rfl⟩
   rw [← hc] at hF hKCy
   clear hc
   have HSd : Hid (RvE w0 wr.drew l gl gr la ca ∧ RvO w0 wr.drew v (svF (reachS l.aisles l.doors) l i ++ filF (allRows l) (fun x => shareB r x) (fun x => ⟨13, r.at', x.at'⟩) i) ∧ OwnR w0 wr.drew sa sc ((seatsS r).map (seatRow r))) := ⟨HS.out.1.down (below_d (Below.refl _ _)), HS.out.2.1.down (below_d (Below.refl _ _)), HS.out.2.2.down (below_d (Below.refl _ _))⟩
   clear HS
   cases c
   rotate_left
   ·
    refine region_any (by kernel_rfl) ?_;revert hF;refine zrb (fuel := 0) [1, 33, 64, 96, 128, 160, 208, 224, 256, 288, 320, 368, 384, 432, 448, 480, 528, 560, 586, 610] [1, 3, 4, 5, 6, 7, 13, 14, 16] fun a hF => ?_
    exact hKCy _ _ ⟨hF, HSd⟩
   have hmi : (m : Int) < ((seatsS r).length : Nat) := by omega
   obtain ⟨ba, oba, hba, e0, e1, e2, e3, e4, e5, e6, e7⟩ := row_at HSd.out.2.2.recs m (by simpa using hmt) (by simpa using hmt)
   simp only [List.getElem_map, seatRow] at e1 e2
   have hpx : (seatsS r)[m].2 = p.2 := by rw [HP.out]
   rw [hpx] at e1
   have HSA := Lib.hid hba
   rw [hba] at hF
   clear hpx hba
   obtain ⟨q0, q1, q2, q3, q4, q5, q6, q7⟩ := HSd.out.1.arg.cells
   obtain ⟨bb, obb, hbb, b0, b1, b2, b3⟩ := box_at (HL.out.below HSd.out.1.below).aisles n hlt hns
   rw [hbb] at q4
   rw [← HBX.out] at b0 b1 b2 b3
   clear hbb
   refine region_any (by kernel_rfl) ?_;revert hF;refine zra (fuel := 3) [1, 33, 65, 97, 138, 169, 212, 225, 257, 298, 329, 372, 393, 436, 449, 490, 532] [17] fun a hF => ?_;refine any_one (n := 17) (fuel := 2) (by kernel_rfl) ?_;revert hF;refine zoc fun K hK => ?_
   refine (rin_any _ bx1 p.2 r.y).mono ?_
   rintro e wi ⟨rfl, hbi⟩
   clear e0 e1 e2 e3 e4 e5 e6 e7 b0 b1 b2 b3 q0 q1 q2 q3 q4 q5 q6 q7
   have HSi : Hid (RvE w0 wi l gl gr la ca ∧ RvO w0 wi v (svF (reachS l.aisles l.doors) l i ++ filF (allRows l) (fun x => shareB r x) (fun x => ⟨13, r.at', x.at'⟩) i) ∧ OwnR w0 wi sa sc ((seatsS r).map (seatRow r))) := ⟨HSd.out.1.down hbi, HSd.out.2.1.down hbi, HSd.out.2.2.down hbi⟩
   clear HSd hbi
   refine hK _ _ (fun a hF => ?_);clear hK K;revert hF;refine zrb (fuel := 0) [586, 610] [1, 3, 4, 5, 6, 7, 13, 14, 16] fun a hF => ?_
   rw [← HSA.out] at hF
   exact hKCy _ _ ⟨hF, HSi⟩
  clear hF HS12
  rintro a w16 ⟨hF, HS⟩
  rw [blA_all] at hF
  have hbd := HBD.out i
  refine seq_cut (fun a' w' => ∃ v : Value, FrF 399 [] [(1, .pointer (some ⟨gl, 0, none⟩)), (3, v), (4, .slice (some ⟨gr, 0, none⟩) l.sn l.sn), (5, .slice la (allRows l).length ca), (6, .int .i64 i)] a' ∧ Hid (RvE w0 w' l gl gr la ca ∧ RvO w0 w' v (svF (reachS l.aisles l.doors) l i ++ filF (allRows l) (fun x => shareB r x) (fun x => ⟨13, r.at', x.at'⟩) i ++ (if blockedB l r then [⟨13, r.at', -1⟩] else [])))) (fun KJ hKJ => ?_) ?_
  ·
   clear hKCi
   revert hF;refine zrs [1] [1, 3, 4, 5, 6, 166] fun a hF => ?_
   obtain ⟨t, ht⟩ : ∃ t, t = blockedB l r := ⟨_, rfl⟩
   rw [← ht] at hF hKJ
   clear ht
   cases t
   ·
    refine cond_no hF rfl ?_
    refine wp_skip ?_
    rw [if_neg (by decide), List.append_nil] at hKJ
    exact hKJ _ _ ⟨_, hF.sub ⟨rfl, rfl, rfl, rfl, rfl, trivial⟩, HS.out.1, HS.out.2.1⟩
   refine cond_yes hF rfl ?_
   rw [if_pos rfl] at hKJ
   obtain ⟨ba, oba, hba, e0, e1, e2, e3, e4, e5, e6, e7⟩ := row_at HS.out.1.all.recs i hil hil
   rw [← HRE.out] at e0 e1 e2 e3 e4 e5 e6 e7
   have HLA := Lib.hid hba
   rw [hba] at hF
   clear hba
   revert hF;refine zrp [1, 1, 1, 5, 4, 4] [6, 7, 8, 9] fun a hF => ?_;revert hF;refine zos fun K hK => ?_
   refine (rfault_any _ ⟨13, r.at', (-1)⟩).mono ?_
   rintro e wf ⟨rfl, hbf⟩
   clear e0 e1 e2 e3 e4 e5 e6 e7
   have HS11 : Hid (RvE w0 wf l gl gr la ca ∧ RvO w0 wf v (svF (reachS l.aisles l.doors) l i ++ filF (allRows l) (fun x => shareB r x) (fun x => ⟨13, r.at', x.at'⟩) i)) := ⟨HS.out.1.down hbf, HS.out.2.1.down hbf⟩
   clear HS hbf
   refine hK _ _ (fun a hF => ?_);clear hK K;refine seq_one ?_;revert hF;refine qe1 fun a hF => ?_
   obtain ⟨v', wz, hAPP, hbz, hoz, htz⟩ := rv_app ⟨13, r.at', (-1)⟩ HS11.out.1.below HS11.out.2 hbd
   have HSz : Hid (RvE w0 wz l gl gr la ca ∧ RvO w0 wz v' (svF (reachS l.aisles l.doors) l i ++ filF (allRows l) (fun x => shareB r x) (fun x => ⟨13, r.at', x.at'⟩) i ++ [⟨13, r.at', (-1)⟩])) := ⟨HS11.out.1.tupd hbz htz, hoz⟩
   clear HS11 hbz hoz htz
   refine seq_one ?_;refine op_append rfl rfl rfl rfl rfl hF rfl rfl rfl hAPP (fun a hF => ?_);clear hAPP;revert hF;refine zre 9 [2] [1, 3, 4, 5, 6] fun a hF => ?_
   rw [← HLA.out] at hF
   exact hKJ _ _ ⟨_, hF, HSz.out.1, HSz.out.2⟩
  clear hF HS hbd
  rintro a w18 ⟨v, hF, HS19⟩
  have hcx := HROr.out.cx
  have hcst := HROr.out.st
  have hcst2 := HRIr.out.step
  have hcf := HROr.out.fr
  have hct := HROr.out.to
  have hcft := HROr.out.ft
  have hw1 : IntKind.i64.wrap (r.x - r.step) = r.x - r.step := wrap_in (by omega) (by omega)
  have hw2 : IntKind.i64.wrap (r.to - r.fr) = r.to - r.fr := wrap_in (by omega) (by omega)
  have hw3 : IntKind.i64.wrap (r.to - r.fr + 1) = r.to - r.fr + 1 := wrap_in (by omega) (by omega)
  obtain ⟨pr, hpr⟩ : ∃ x, IntKind.i64.wrap ((r.to - r.fr + 1) * r.step) = x := ⟨_, rfl⟩
  have hw4 : IntKind.i64.wrap (r.x + pr) = rightS r := by rw [← hpr, wrap_right]; rfl
  clear hcx hcst hcst2 hcf hct hcft
  revert hF;refine zrs [2] [1, 3, 4, 5, 6, 17] fun a hF => ?_
  have hz : opB (reachS l.aisles l.doors) l (fun b => insideB b (leftS r) r.y || insideB b (rightS r) r.y) 0 = false := rfl
  rw [← hz] at hF
  clear hz
  refine seq_cut (fun a' w' => FrF 399 [] [(1, .pointer (some ⟨gl, 0, none⟩)), (3, v), (4, .slice (some ⟨gr, 0, none⟩) l.sn l.sn), (5, .slice la (allRows l).length ca), (6, .int .i64 i), (17, .bool (opB (reachS l.aisles l.doors) l (fun b => insideB b (leftS r) r.y || insideB b (rightS r) r.y) l.aisles.length))] a' ∧ Hid (RvE w0 w' l gl gr la ca ∧ RvO w0 w' v (svF (reachS l.aisles l.doors) l i ++ filF (allRows l) (fun x => shareB r x) (fun x => ⟨13, r.at', x.at'⟩) i ++ (if blockedB l r then [⟨13, r.at', -1⟩] else [])))) (fun KAo hKAo => ?_) ?_
  ·
   skip
   revert hF;refine zrs [2] [1, 3, 4, 5, 6, 17, 18] fun a hF => ?_
   refine wp_block ?_
   refine loop_fr (fun qo a' w' => ∃ n : Nat, n + qo = l.sn ∧ FrF 399 [] [(1, .pointer (some ⟨gl, 0, none⟩)), (3, v), (4, .slice (some ⟨gr, 0, none⟩) l.sn l.sn), (5, .slice la (allRows l).length ca), (6, .int .i64 i), (17, .bool (opB (reachS l.aisles l.doors) l (fun b => insideB b (leftS r) r.y || insideB b (rightS r) r.y) n)), (18, .int .i64 n)] a' ∧ Hid (RvE w0 w' l gl gr la ca ∧ RvO w0 w' v (svF (reachS l.aisles l.doors) l i ++ filF (allRows l) (fun x => shareB r x) (fun x => ⟨13, r.at', x.at'⟩) i ++ (if blockedB l r then [⟨13, r.at', -1⟩] else [])))) (l.sn) ⟨0, by omega, hF, HS19⟩ ?_
   clear hF HS19
   rintro rko a wr ⟨n, hiko, hF, HS⟩ KBo hKBo
   refine wp_seq_k (fun K hK => ?_)
   by_cases hlt : n < l.sn
   rotate_left
   ·
    have hlti : ¬ (n : Int) < (l.sn : Nat) := by omega
    obtain ⟨q0, q1, q2, q3, q4, q5, q6, q7⟩ := HS.out.1.arg.cells
    revert hF;refine zrs [1, 4, 4, 4, 5] [1, 3, 4, 5, 6, 17, 18, 180] fun a hF => ?_
    clear q0 q1 q2 q3 q4 q5 q6 q7
    refine cond_no hF rfl ?_
    refine wp_exit ?_
    have hie : n = l.aisles.length := by rw [HSN.out]; omega
    rw [hie] at hF
    exact hKAo _ _ ⟨hF.sub ⟨rfl, rfl, rfl, rfl, rfl, rfl, trivial⟩, HS⟩
   have hlti : (n : Int) < (l.sn : Nat) := by omega
   obtain ⟨q0, q1, q2, q3, q4, q5, q6, q7⟩ := HS.out.1.arg.cells
   revert hF;refine zrs [1, 4, 4, 4, 5] [1, 3, 4, 5, 6, 17, 18, 180] fun a hF => ?_
   clear q0 q1 q2 q3 q4 q5 q6 q7
   refine cond_yes hF rfl ?_
   refine wp_skip ?_
   refine hK _ _ ?_;clear hK;replace hF := hF.kp [1, 3, 4, 5, 6, 17, 18] rfl
   clear hKAo
   refine seq_cut (fun a' w' => FrF 399 [] [(1, .pointer (some ⟨gl, 0, none⟩)), (3, v), (4, .slice (some ⟨gr, 0, none⟩) l.sn l.sn), (5, .slice la (allRows l).length ca), (6, .int .i64 i), (17, .bool (opB (reachS l.aisles l.doors) l (fun b => insideB b (leftS r) r.y || insideB b (rightS r) r.y) (n + 1))), (18, .int .i64 n)] a' ∧ Hid (RvE w0 w' l gl gr la ca ∧ RvO w0 w' v (svF (reachS l.aisles l.doors) l i ++ filF (allRows l) (fun x => shareB r x) (fun x => ⟨13, r.at', x.at'⟩) i ++ (if blockedB l r then [⟨13, r.at', -1⟩] else [])))) (fun KCo hKCo => ?_) ?_
   rotate_left
   ·
    clear hF HS
    rintro a w' ⟨hF, HS⟩
    have hws : IntKind.i64.wrap ((n : Int) + 1) = ((n + 1 : Nat) : Int) := wrap_succ (by omega)
    revert hF;refine zrg [1, 4, 2] [1, 3, 4, 5, 6, 17, 18] fun a hF => ?_
    exact hKBo (l.sn - (n + 1)) _ _ (by omega) ⟨n + 1, by omega, hF, HS⟩
   clear hKBo hiko
   refine wp_block ?_
   have hns : n < l.aisles.length := by rw [HSN.out]; exact hlt
   have hnr : n < (reachS l.aisles l.doors).length := by rw [reachS_len]; exact hns
   rw [opB_next hns hnr] at hKCo
   obtain ⟨bx1, hbx⟩ : ∃ b, b = l.aisles[n] := ⟨_, rfl⟩
   have HBX := Lib.hid hbx
   rw [← hbx] at hKCo
   clear hbx
   have HSd : Hid (RvE w0 wr.drew l gl gr la ca ∧ RvO w0 wr.drew v (svF (reachS l.aisles l.doors) l i ++ filF (allRows l) (fun x => shareB r x) (fun x => ⟨13, r.at', x.at'⟩) i ++ (if blockedB l r then [⟨13, r.at', -1⟩] else []))) := ⟨HS.out.1.down (below_d (Below.refl _ _)), HS.out.2.down (below_d (Below.refl _ _))⟩
   clear HS
   obtain ⟨c, hc⟩ : ∃ c, c = opB (reachS l.aisles l.doors) l (fun b => insideB b (leftS r) r.y || insideB b (rightS r) r.y) n := ⟨_, rfl⟩
   rw [← hc] at hF hKCo
   clear hc
   refine wp_seq_k (fun K hK => ?_)
   have hii : (i : Int) < ((allRows l).length : Nat) := by omega
   obtain ⟨ba, oba, hba, e0, e1, e2, e3, e4, e5, e6, e7⟩ := row_at HSd.out.1.all.recs i hil hil
   rw [← HRE.out] at e0 e1 e2 e3 e4 e5 e6 e7
   have HLA := Lib.hid hba
   rw [hba] at hF
   clear hba
   obtain ⟨q0, q1, q2, q3, q4, q5, q6, q7⟩ := HSd.out.1.arg.cells
   obtain ⟨bb, obb, hbb, b0, b1, b2, b3⟩ := box_at (HL.out.below HSd.out.1.below).aisles n hlt hns
   rw [hbb] at q4
   rw [← HBX.out] at b0 b1 b2 b3
   clear hbb
   refine region_any (by kernel_rfl) ?_;revert hF;refine zra (fuel := 2) [1, 33, 74, 105, 148, 161, 193, 234, 265, 308, 330, 353, 385, 426, 457, 500, 521, 564, 577, 618, 660] [21] fun a hF => ?_;refine any_one (n := 21) (fuel := 1) (by kernel_rfl) ?_;revert hF;refine zoc fun K hK => ?_
   refine (rin_any _ bx1 (r.x - r.step) r.y).mono ?_
   rintro e wi ⟨rfl, hbi⟩
   clear e0 e1 e2 e3 e4 e5 e6 e7 b0 b1 b2 b3 q0 q1 q2 q3 q4 q5 q6 q7
   have HSi : Hid (RvE w0 wi.drew l gl gr la ca ∧ RvO w0 wi.drew v (svF (reachS l.aisles l.doors) l i ++ filF (allRows l) (fun x => shareB r x) (fun x => ⟨13, r.at', x.at'⟩) i ++ (if blockedB l r then [⟨13, r.at', -1⟩] else []))) := ⟨(HSd.out.1.down hbi).down (below_d (Below.refl _ _)), (HSd.out.2.down hbi).down (below_d (Below.refl _ _))⟩
   clear HSd hbi
   refine hK _ _ (fun a hF => ?_);clear hK K;revert hF;refine zrb (fuel := 0) [706] [1, 3, 4, 5, 6, 17, 18, 19] fun a hF => ?_;refine hK _ _ ?_;clear hK
   obtain ⟨ba, oba, hba, e0, e1, e2, e3, e4, e5, e6, e7⟩ := row_at HSi.out.1.all.recs i hil hil
   rw [← HRE.out] at e0 e1 e2 e3 e4 e5 e6 e7
   have HLA2 := Lib.hid hba
   rw [HLA.out] at hba
   cases hba
   obtain ⟨q0, q1, q2, q3, q4, q5, q6, q7⟩ := HSi.out.1.arg.cells
   obtain ⟨bb, obb, hbb, b0, b1, b2, b3⟩ := box_at (HL.out.below HSi.out.1.below).aisles n hlt hns
   rw [hbb] at q4
   rw [← HBX.out] at b0 b1 b2 b3
   clear hbb HLA2
   refine wp_seq_k (fun K hK => ?_);refine region_any (by kernel_rfl) ?_;revert hF;refine zra (fuel := 2) [1, 33, 74, 105, 148, 161, 193, 234, 265, 308, 321, 353, 394, 425, 468, 490, 521, 545, 577, 618, 649, 692, 714, 746, 769, 801, 842, 873, 916, 937, 980, 993, 1034, 1076] [34] fun a hF => ?_;refine any_one (n := 34) (fuel := 1) (by kernel_rfl) ?_;revert hF;refine zoc fun K hK => ?_
   refine (rin_any _ bx1 (rightS r) r.y).mono ?_
   rintro e wj ⟨rfl, hbj⟩
   clear e0 e1 e2 e3 e4 e5 e6 e7 b0 b1 b2 b3 q0 q1 q2 q3 q4 q5 q6 q7
   have HSj : Hid (RvE w0 wj l gl gr la ca ∧ RvO w0 wj v (svF (reachS l.aisles l.doors) l i ++ filF (allRows l) (fun x => shareB r x) (fun x => ⟨13, r.at', x.at'⟩) i ++ (if blockedB l r then [⟨13, r.at', -1⟩] else []))) := ⟨HSi.out.1.down hbj, HSi.out.2.down hbj⟩
   clear HSi hbj
   refine hK _ _ (fun a hF => ?_);clear hK K;revert hF;refine zrb (fuel := 0) [1122] [1, 3, 4, 5, 6, 17, 18, 19, 20] fun a hF => ?_;refine hK _ _ ?_;clear hK
   (try simp only [List.length_map] at hF)
   rw [← HLA.out] at hF
   clear HLA
   have hlf : insideB bx1 (leftS r) r.y = insideB bx1 (r.x - r.step) r.y := rfl
   rw [hlf] at hKCo
   clear hlf
   obtain ⟨y1, hy1⟩ : ∃ y, y = insideB bx1 (r.x - r.step) r.y := ⟨_, rfl⟩
   obtain ⟨y2, hy2⟩ : ∃ y, y = insideB bx1 (rightS r) r.y := ⟨_, rfl⟩
   rw [← hy1, ← hy2] at hKCo
   rw [← hy1, ← hy2] at hF
   clear hy1 hy2
   cases c
   rotate_left
   ·
    revert hF;refine zrg [1, 1, 0, 0, 0, 0, 0, 0, 0, 0, 0, 0, 5, 2] [1, 3, 4, 5, 6, 17, 18] fun a hF => ?_
    exact hKCo _ _ ⟨hF, HSj⟩
   have cr := HSj.out.1.re.cell n hnr
   obtain ⟨c2, hc2⟩ : ∃ c, c = bx (reachS l.aisles l.doors) n := ⟨_, rfl⟩
   rw [← hc2] at cr hKCo
   clear hc2
   cases c2
   ·
    revert hF;refine zrg [1, 1, 1, 1, 5, 4, 1, 0, 0, 0, 0, 5, 5, 2] [1, 3, 4, 5, 6, 17, 18] fun a hF => ?_
    exact hKCo _ _ ⟨hF, HSj⟩
   cases y1
   rotate_left
   ·
    revert hF;refine zrg [1, 1, 1, 1, 5, 4, 1, 1, 1, 0, 5, 5, 5, 2] [1, 3, 4, 5, 6, 17, 18] fun a hF => ?_
    exact hKCo _ _ ⟨hF, HSj⟩
   revert hF;refine zrg [1, 1, 1, 1, 5, 4, 1, 1, 1, 1, 5, 5, 5, 2] [1, 3, 4, 5, 6, 17, 18] fun a hF => ?_
   exact hKCo _ _ ⟨hF, HSj⟩
  clear hF HS19
  rintro a w20 ⟨hF, HS⟩
  rw [opB_all _ (by rw [reachS_len])] at hF
  clear hw1 hw2 hw3 hw4 hpr
  revert hF;refine zrs [1, 4] [1, 3, 4, 5, 6, 254] fun a hF => ?_
  have hbe : openB (reachS l.aisles l.doors) l (fun b => insideB b (leftS r) r.y || insideB b (rightS r) r.y) = besideB (reachS l.aisles l.doors) l r := rfl
  rw [hbe] at hF
  clear hbe
  obtain ⟨t, ht⟩ : ∃ t, t = besideB (reachS l.aisles l.doors) l r := ⟨_, rfl⟩
  rw [← ht] at hF hKCi
  clear ht
  cases t
  rotate_left
  ·
   refine cond_no hF rfl ?_
   refine wp_skip ?_
   have hif : (if true = true then ([] : List FaultR) else [⟨14, r.at', -1⟩]) = [] := rfl
   rw [hif, List.append_nil] at hKCi
   exact hKCi _ _ ⟨_, hF.sub ⟨rfl, rfl, rfl, rfl, rfl, trivial⟩, HS.out.1, HS.out.2⟩
  refine cond_yes hF rfl ?_
  have hif : (if false = true then ([] : List FaultR) else [⟨14, r.at', -1⟩]) = [⟨14, r.at', -1⟩] := rfl
  rw [hif] at hKCi
  clear hif
  obtain ⟨ba, oba, hba, e0, e1, e2, e3, e4, e5, e6, e7⟩ := row_at HS.out.1.all.recs i hil hil
  rw [← HRE.out] at e0 e1 e2 e3 e4 e5 e6 e7
  have HLA := Lib.hid hba
  rw [hba] at hF
  clear hba
  revert hF;refine zrp [1, 1, 1, 5, 4, 4] [6, 7, 8, 9] fun a hF => ?_;revert hF;refine zos fun K hK => ?_
  refine (rfault_any _ ⟨14, r.at', (-1)⟩).mono ?_
  rintro e wf ⟨rfl, hbf⟩
  clear e0 e1 e2 e3 e4 e5 e6 e7
  have HS11 : Hid (RvE w0 wf l gl gr la ca ∧ RvO w0 wf v (svF (reachS l.aisles l.doors) l i ++ filF (allRows l) (fun x => shareB r x) (fun x => ⟨13, r.at', x.at'⟩) i ++ (if blockedB l r then [⟨13, r.at', -1⟩] else []))) := ⟨HS.out.1.down hbf, HS.out.2.down hbf⟩
  clear HS hbf
  refine hK _ _ (fun a hF => ?_);clear hK K;refine seq_one ?_;revert hF;refine qe1 fun a hF => ?_
  obtain ⟨v', wz, hAPP, hbz, hoz, htz⟩ := rv_app ⟨14, r.at', (-1)⟩ HS11.out.1.below HS11.out.2 (by
   have := HBD.out i
   rw [List.length_append]
   have : (if blockedB l r = true then [(⟨13, r.at', -1⟩ : FaultR)] else []).length ≤ 1 := by
    cases blockedB l r <;> simp
   have h1 : (svF (reachS l.aisles l.doors) l i).length ≤ (allRows l).length * 102 := HLV.out i
   have h2 := filF_len (allRows l) (fun x => shareB r x) (fun x => (⟨13, r.at', x.at'⟩ : FaultR)) i
   have := HLN.out
   rw [List.length_append]
   omega)
  have HSz : Hid (RvE w0 wz l gl gr la ca ∧ RvO w0 wz v' (svF (reachS l.aisles l.doors) l i ++ filF (allRows l) (fun x => shareB r x) (fun x => ⟨13, r.at', x.at'⟩) i ++ (if blockedB l r then [⟨13, r.at', -1⟩] else []) ++ [⟨14, r.at', (-1)⟩])) := ⟨HS11.out.1.tupd hbz htz, hoz⟩
  clear HS11 hbz hoz htz
  refine seq_one ?_;refine op_append rfl rfl rfl rfl rfl hF rfl rfl rfl hAPP (fun a hF => ?_);clear hAPP;revert hF;refine zre 9 [2] [1, 3, 4, 5, 6] fun a hF => ?_
  rw [← HLA.out] at hF
  exact hKCi _ _ ⟨_, hF, HSz.out.1, HSz.out.2⟩
 clear hF HS
 rintro a w21 ⟨v, hF, HS⟩
 have HS22 : Hid (RvE w0 w21 l gl gr la ca ∧ RvO w0 w21 v (svF (reachS l.aisles l.doors) l (allRows l).length ++ arF (reachS l.aisles l.doors) l 0)) := ⟨HS.out.1, by
  have : arF (reachS l.aisles l.doors) l 0 = [] := rfl
  rw [this, List.append_nil]
  exact HS.out.2⟩
 clear HS
 refine seq_cut (fun a' w' => ∃ v : Value, FrF 399 [] [(1, .pointer (some ⟨gl, 0, none⟩)), (3, v), (4, .slice (some ⟨gr, 0, none⟩) l.sn l.sn), (5, .slice la (allRows l).length ca)] a' ∧ Hid (RvE w0 w' l gl gr la ca ∧ RvO w0 w' v (svF (reachS l.aisles l.doors) l (allRows l).length ++ arF (reachS l.aisles l.doors) l l.areas.length))) (fun KAa hKAa => ?_) ?_
 ·
  skip
  revert hF;refine zrs [2] [1, 3, 4, 5, 21] fun a hF => ?_
  refine wp_block ?_
  refine loop_fr (fun qa a' w' => ∃ i : Nat, i + qa = l.an ∧ ∃ v : Value, FrF 399 [] [(1, .pointer (some ⟨gl, 0, none⟩)), (3, v), (4, .slice (some ⟨gr, 0, none⟩) l.sn l.sn), (5, .slice la (allRows l).length ca), (21, .int .i64 i)] a' ∧ Hid (RvE w0 w' l gl gr la ca ∧ RvO w0 w' v (svF (reachS l.aisles l.doors) l (allRows l).length ++ arF (reachS l.aisles l.doors) l i))) (l.an) ⟨0, by omega, _, hF, HS22⟩ ?_
  clear hF HS22
  rintro rka a w23 ⟨i, hika, v, hF, HS⟩ KBa hKBa
  refine wp_seq_k (fun K hK => ?_)
  by_cases hlt : i < l.an
  rotate_left
  ·
   have hlti : ¬ (i : Int) < (l.an : Nat) := by omega
   obtain ⟨q0, q1, q2, q3, q4, q5, q6, q7⟩ := HS.out.1.arg.cells
   revert hF;refine zrs [1, 4, 4, 4, 5] [1, 3, 4, 5, 21, 268] fun a hF => ?_
   clear q0 q1 q2 q3 q4 q5 q6 q7
   refine cond_no hF rfl ?_
   refine wp_exit ?_
   have hie : i = l.areas.length := by rw [HAN.out]; omega
   rw [hie] at HS
   exact hKAa _ _ ⟨_, hF.sub ⟨rfl, rfl, rfl, rfl, trivial⟩, HS⟩
  have hlti : (i : Int) < (l.an : Nat) := by omega
  obtain ⟨q0, q1, q2, q3, q4, q5, q6, q7⟩ := HS.out.1.arg.cells
  revert hF;refine zrs [1, 4, 4, 4, 5] [1, 3, 4, 5, 21, 268] fun a hF => ?_
  clear q0 q1 q2 q3 q4 q5 q6 q7
  refine cond_yes hF rfl ?_
  refine wp_skip ?_
  refine hK _ _ ?_;clear hK;replace hF := hF.kp [1, 3, 4, 5, 21] rfl
  clear hKAa
  refine seq_cut (fun a' w' => ∃ v : Value, FrF 399 [] [(1, .pointer (some ⟨gl, 0, none⟩)), (3, v), (4, .slice (some ⟨gr, 0, none⟩) l.sn l.sn), (5, .slice la (allRows l).length ca), (21, .int .i64 i)] a' ∧ Hid (RvE w0 w' l gl gr la ca ∧ RvO w0 w' v (svF (reachS l.aisles l.doors) l (allRows l).length ++ arF (reachS l.aisles l.doors) l (i + 1)))) (fun KCa hKCa => ?_) ?_
  rotate_left
  ·
   clear hF HS
   rintro a w' ⟨v, hF, HS⟩
   have hws : IntKind.i64.wrap ((i : Int) + 1) = ((i + 1 : Nat) : Int) := wrap_succ (by omega)
   revert hF;refine zrg [1, 4, 2] [1, 3, 4, 5, 21] fun a hF => ?_
   exact hKBa (l.an - (i + 1)) _ _ (by omega) ⟨i + 1, by omega, _, hF, HS⟩
  clear hKBa hika
  refine wp_block ?_
  have hia := hlt
  have hil : i < l.areas.length := by rw [HAN.out]; exact hlt
  have hii : (i : Int) < (l.an : Nat) := by omega
  rw [arF_next2 hil, ← List.append_assoc, ← List.append_assoc, ← List.append_assoc] at hKCa
  obtain ⟨ar, har⟩ : ∃ x, x = l.areas[i] := ⟨_, rfl⟩
  rw [← har] at hKCa
  have HAE := Lib.hid har
  clear har hlt hlti
  have HBK : Hid (∀ k, (svF (reachS l.aisles l.doors) l (allRows l).length ++ arF (reachS l.aisles l.doors) l i ++ filF (allRows l) (fun r => inAreaB ar r) (fun r => ⟨13, ar.at', r.at'⟩) k).length ≤ 700000) := fun k => by
   have h1 : (svF (reachS l.aisles l.doors) l (allRows l).length).length ≤ (allRows l).length * 102 := HLV.out _
   have h2 := filF_len (allRows l) (fun r => inAreaB ar r) (fun r => (⟨13, ar.at', r.at'⟩ : FaultR)) k
   have h3 := HAV.out i
   rw [List.length_append, List.length_append]
   have := HLN.out
   omega
  have HBM : Hid (∀ k, (svF (reachS l.aisles l.doors) l (allRows l).length ++ arF (reachS l.aisles l.doors) l i ++ filF (allRows l) (fun r => inAreaB ar r) (fun r => ⟨13, ar.at', r.at'⟩) (allRows l).length ++ filF l.areas (fun b => meetB ar.box b.box) (fun b => ⟨13, ar.at', b.at'⟩) k).length ≤ 800000) := fun k => by
   have h1 := HBK.out (allRows l).length
   have h2 := filF_len l.areas (fun b => meetB ar.box b.box) (fun b => (⟨13, ar.at', b.at'⟩ : FaultR)) k
   rw [List.length_append]
   have := HAN.out
   omega
  have HS24 : Hid (RvE w0 w23 l gl gr la ca ∧ RvO w0 w23 v (svF (reachS l.aisles l.doors) l (allRows l).length ++ arF (reachS l.aisles l.doors) l i ++ filF (allRows l) (fun r => inAreaB ar r) (fun r => ⟨13, ar.at', r.at'⟩) 0)) := ⟨HS.out.1, by
   have : filF (allRows l) (fun r => inAreaB ar r) (fun r => ⟨13, ar.at', r.at'⟩) 0 = ([] : List FaultR) := rfl
   rw [this, List.append_nil]
   exact HS.out.2⟩
  clear HS
  refine seq_cut (fun a' w' => ∃ v : Value, FrF 399 [] [(1, .pointer (some ⟨gl, 0, none⟩)), (3, v), (4, .slice (some ⟨gr, 0, none⟩) l.sn l.sn), (5, .slice la (allRows l).length ca), (21, .int .i64 i)] a' ∧ Hid (RvE w0 w' l gl gr la ca ∧ RvO w0 w' v (svF (reachS l.aisles l.doors) l (allRows l).length ++ arF (reachS l.aisles l.doors) l i ++ filF (allRows l) (fun r => inAreaB ar r) (fun r => ⟨13, ar.at', r.at'⟩) (allRows l).length))) (fun KAk hKAk => ?_) ?_
  ·
   skip
   revert hF;refine zrs [2] [1, 3, 4, 5, 21, 22] fun a hF => ?_
   refine wp_block ?_
   refine loop_fr (fun qk a' w' => ∃ k : Nat, k + qk = (allRows l).length ∧ ∃ v : Value, FrF 399 [] [(1, .pointer (some ⟨gl, 0, none⟩)), (3, v), (4, .slice (some ⟨gr, 0, none⟩) l.sn l.sn), (5, .slice la (allRows l).length ca), (21, .int .i64 i), (22, .int .i64 k)] a' ∧ Hid (RvE w0 w' l gl gr la ca ∧ RvO w0 w' v (svF (reachS l.aisles l.doors) l (allRows l).length ++ arF (reachS l.aisles l.doors) l i ++ filF (allRows l) (fun r => inAreaB ar r) (fun r => ⟨13, ar.at', r.at'⟩) k))) ((allRows l).length) ⟨0, by omega, _, hF, HS24⟩ ?_
   clear hF HS24
   rintro rkk a w25 ⟨k, hikk, v, hF, HS⟩ KBk hKBk
   refine wp_seq_k (fun K hK => ?_)
   by_cases hlt : k < (allRows l).length
   rotate_left
   ·
    have hlti : ¬ (k : Int) < ((allRows l).length : Nat) := by omega

    revert hF;refine zrs [1, 1, 4, 5] [1, 3, 4, 5, 21, 22, 274] fun a hF => ?_
    refine cond_no hF rfl ?_
    refine wp_exit ?_
    have hie : k = (allRows l).length := by omega
    rw [hie] at HS
    exact hKAk _ _ ⟨_, hF.sub ⟨rfl, rfl, rfl, rfl, rfl, trivial⟩, HS⟩
   have hlti : (k : Int) < ((allRows l).length : Nat) := by omega

   revert hF;refine zrs [1, 1, 4, 5] [1, 3, 4, 5, 21, 22, 274] fun a hF => ?_
   refine cond_yes hF rfl ?_
   refine wp_skip ?_
   refine hK _ _ ?_;clear hK;replace hF := hF.kp [1, 3, 4, 5, 21, 22] rfl
   clear hKAk
   refine seq_cut (fun a' w' => ∃ v : Value, FrF 399 [] [(1, .pointer (some ⟨gl, 0, none⟩)), (3, v), (4, .slice (some ⟨gr, 0, none⟩) l.sn l.sn), (5, .slice la (allRows l).length ca), (21, .int .i64 i), (22, .int .i64 k)] a' ∧ Hid (RvE w0 w' l gl gr la ca ∧ RvO w0 w' v (svF (reachS l.aisles l.doors) l (allRows l).length ++ arF (reachS l.aisles l.doors) l i ++ filF (allRows l) (fun r => inAreaB ar r) (fun r => ⟨13, ar.at', r.at'⟩) (k + 1)))) (fun KCk hKCk => ?_) ?_
   rotate_left
   ·
    clear hF HS
    rintro a w' ⟨v, hF, HS⟩
    have hws : IntKind.i64.wrap ((k : Int) + 1) = ((k + 1 : Nat) : Int) := wrap_succ (by omega)
    revert hF;refine zrg [1, 4, 2] [1, 3, 4, 5, 21, 22] fun a hF => ?_
    exact hKBk ((allRows l).length - (k + 1)) _ _ (by omega) ⟨k + 1, by omega, _, hF, HS⟩
   clear hKBk hikk
   refine wp_block ?_
   have hks := hlt
   have hki : (k : Int) < ((allRows l).length : Nat) := by omega
   obtain ⟨x, hx⟩ : ∃ x, x = (allRows l)[k] := ⟨_, rfl⟩
   have HXI : Hid (x.In w0) := by rw [hx]; exact HRI.out _ (List.getElem_mem hks)
   have HXO : Hid (RowOk x) := by rw [hx]; exact HRO.out _ (List.getElem_mem hks)
   have hnx := filF_next (p := fun r => inAreaB ar r) (f := fun r => (⟨13, ar.at', r.at'⟩ : FaultR)) hks
   rw [← hx] at hnx
   rw [hnx, ← List.append_assoc] at hKCk
   clear hnx
   have HXE := Lib.hid hx
   clear hx hlt hlti
   have hsx := seats_len HXO.out
   refine wp_seq_k (fun K hK => ?_)
   obtain ⟨bb, obb, hbb, f0, f1, f2, f3, f4, f5, f6, f7⟩ := row_at HS.out.1.all.recs k hks hks
   rw [← HXE.out] at f0 f1 f2 f3 f4 f5 f6 f7
   have HLA := Lib.hid hbb
   rw [hbb] at hF
   clear hbb
   revert hF;refine zrp [1, 1, 5, 4] [4, 5] fun a hF => ?_;revert hF;refine zos fun K hK => ?_
   refine (rseats_any w25 x (HXI.out.below HS.out.1.below) HXO.out).mono ?_
   rintro e w6 ⟨v', rfl, hb6, ho6⟩
   clear f0 f1 f2 f3 f4 f5 f6 f7
   have ho7 := own_mono (B' := w0.heap.size) ho6 HS.out.1.below.size
   rw [← List.length_map (f := seatRow x)] at ho7
   obtain ⟨ta, tc, rfl, ho8⟩ := OwnR.of ho7
   have HS5 : Hid (RvE w0 w6 l gl gr la ca ∧ RvO w0 w6 v (svF (reachS l.aisles l.doors) l (allRows l).length ++ arF (reachS l.aisles l.doors) l i ++ filF (allRows l) (fun r => inAreaB ar r) (fun r => ⟨13, ar.at', r.at'⟩) k) ∧ OwnR w0 w6 ta tc ((seatsS x).map (seatRow x))) := ⟨HS.out.1.down hb6, HS.out.2.down hb6, ho8⟩
   clear HS hb6 ho6 ho7 ho8
   refine hK _ _ (fun a hF => ?_);clear hK K;revert hF;refine zre 5 [2] [1, 3, 4, 5, 21, 22, 23] fun a hF => ?_;refine hK _ _ ?_;clear hK
   (try simp only [List.length_map] at hF)
   rw [← HLA.out] at hF
   clear HLA
   revert hF;refine zrs [2] [1, 3, 4, 5, 21, 22, 23, 24] fun a hF => ?_
   have hz : inA ar x 0 = false := rfl
   rw [← hz] at hF
   clear hz
   refine seq_cut (fun a' w' => FrF 399 [] [(1, .pointer (some ⟨gl, 0, none⟩)), (3, v), (4, .slice (some ⟨gr, 0, none⟩) l.sn l.sn), (5, .slice la (allRows l).length ca), (21, .int .i64 i), (22, .int .i64 k), (23, .slice ta (seatsS x).length tc), (24, .bool (inA ar x (seatsS x).length))] a' ∧ Hid (RvE w0 w' l gl gr la ca ∧ RvO w0 w' v (svF (reachS l.aisles l.doors) l (allRows l).length ++ arF (reachS l.aisles l.doors) l i ++ filF (allRows l) (fun r => inAreaB ar r) (fun r => ⟨13, ar.at', r.at'⟩) k) ∧ OwnR w0 w' ta tc ((seatsS x).map (seatRow x)))) (fun KAn hKAn => ?_) ?_
   ·
    skip
    revert hF;refine zrs [2] [1, 3, 4, 5, 21, 22, 23, 24, 25] fun a hF => ?_
    refine wp_block ?_
    refine loop_fr (fun qn a' w' => ∃ n : Nat, n + qn = (seatsS x).length ∧ FrF 399 [] [(1, .pointer (some ⟨gl, 0, none⟩)), (3, v), (4, .slice (some ⟨gr, 0, none⟩) l.sn l.sn), (5, .slice la (allRows l).length ca), (21, .int .i64 i), (22, .int .i64 k), (23, .slice ta (seatsS x).length tc), (24, .bool (inA ar x n)), (25, .int .i64 n)] a' ∧ Hid (RvE w0 w' l gl gr la ca ∧ RvO w0 w' v (svF (reachS l.aisles l.doors) l (allRows l).length ++ arF (reachS l.aisles l.doors) l i ++ filF (allRows l) (fun r => inAreaB ar r) (fun r => ⟨13, ar.at', r.at'⟩) k) ∧ OwnR w0 w' ta tc ((seatsS x).map (seatRow x)))) ((seatsS x).length) ⟨0, by omega, hF, HS5⟩ ?_
    clear hF HS5
    rintro rkn a wr ⟨n, hikn, hF, HS⟩ KBn hKBn
    refine wp_seq_k (fun K hK => ?_)
    by_cases hlt : n < (seatsS x).length
    rotate_left
    ·
     have hlti : ¬ (n : Int) < ((seatsS x).length : Nat) := by omega

     revert hF;refine zrs [1, 1, 4, 5] [1, 3, 4, 5, 21, 22, 23, 24, 25, 285] fun a hF => ?_
     refine cond_no hF rfl ?_
     refine wp_exit ?_
     have hie : n = (seatsS x).length := by simp at hlt hikn; omega
     rw [hie] at hF
     exact hKAn _ _ ⟨hF.sub ⟨rfl, rfl, rfl, rfl, rfl, rfl, rfl, rfl, trivial⟩, HS⟩
    have hlti : (n : Int) < ((seatsS x).length : Nat) := by omega

    revert hF;refine zrs [1, 1, 4, 5] [1, 3, 4, 5, 21, 22, 23, 24, 25, 285] fun a hF => ?_
    refine cond_yes hF rfl ?_
    refine wp_skip ?_
    refine hK _ _ ?_;clear hK;replace hF := hF.kp [1, 3, 4, 5, 21, 22, 23, 24, 25] rfl
    clear hKAn
    refine seq_cut (fun a' w' => FrF 399 [] [(1, .pointer (some ⟨gl, 0, none⟩)), (3, v), (4, .slice (some ⟨gr, 0, none⟩) l.sn l.sn), (5, .slice la (allRows l).length ca), (21, .int .i64 i), (22, .int .i64 k), (23, .slice ta (seatsS x).length tc), (24, .bool (inA ar x (n + 1))), (25, .int .i64 n)] a' ∧ Hid (RvE w0 w' l gl gr la ca ∧ RvO w0 w' v (svF (reachS l.aisles l.doors) l (allRows l).length ++ arF (reachS l.aisles l.doors) l i ++ filF (allRows l) (fun r => inAreaB ar r) (fun r => ⟨13, ar.at', r.at'⟩) k) ∧ OwnR w0 w' ta tc ((seatsS x).map (seatRow x)))) (fun KCn hKCn => ?_) ?_
    rotate_left
    ·
     clear hF HS
     rintro a w' ⟨hF, HS⟩
     have hws : IntKind.i64.wrap ((n : Int) + 1) = ((n + 1 : Nat) : Int) := wrap_succ (by omega)
     revert hF;refine zrg [1, 4, 2] [1, 3, 4, 5, 21, 22, 23, 24, 25] fun a hF => ?_
     exact hKBn ((seatsS x).length - (n + 1)) _ _ (by omega) ⟨n + 1, by omega, hF, HS⟩
    clear hKBn hikn
    refine wp_block ?_
    have hnt := hlt
    have hns : n < (seatsS x).length := by simpa using hlt
    rw [inA_next hns] at hKCn
    obtain ⟨q, hq⟩ : ∃ q, q = (seatsS x)[n] := ⟨_, rfl⟩
    have HQ := Lib.hid hq
    rw [← hq] at hKCn
    clear hq
    obtain ⟨c, hc⟩ : ∃ c, c = inA ar x n := ⟨_, rfl⟩
    rw [← hc] at hF hKCn
    clear hc
    have HSd : Hid (RvE w0 wr.drew l gl gr la ca ∧ RvO w0 wr.drew v (svF (reachS l.aisles l.doors) l (allRows l).length ++ arF (reachS l.aisles l.doors) l i ++ filF (allRows l) (fun r => inAreaB ar r) (fun r => ⟨13, ar.at', r.at'⟩) k) ∧ OwnR w0 wr.drew ta tc ((seatsS x).map (seatRow x))) := ⟨HS.out.1.down (below_d (Below.refl _ _)), HS.out.2.1.down (below_d (Below.refl _ _)), HS.out.2.2.down (below_d (Below.refl _ _))⟩
    clear HS
    cases c
    rotate_left
    ·
     refine region_any (by kernel_rfl) ?_;revert hF;refine zrb (fuel := 0) [1, 33, 64, 96, 128, 160, 208, 224, 256, 288, 320, 368, 384, 432, 448, 480, 512, 560, 592, 618, 642] [1, 3, 4, 5, 21, 22, 23, 24, 25] fun a hF => ?_
     exact hKCn _ _ ⟨hF, HSd⟩
    obtain ⟨ba, oba, hba, e0, e1, e2, e3, e4, e5, e6, e7⟩ := row_at HSd.out.2.2.recs n (by simpa using hnt) (by simpa using hnt)
    simp only [List.getElem_map, seatRow] at e1 e2
    have hpx : (seatsS x)[n].2 = q.2 := by rw [HQ.out]
    rw [hpx] at e1
    have HSA := Lib.hid hba
    rw [hba] at hF
    clear hpx hba
    obtain ⟨q0, q1, q2, q3, q4, q5, q6, q7⟩ := HSd.out.1.arg.cells
    obtain ⟨bb, obb, hbb, b0, b1, b2, b3, b4, b5, b6⟩ := area_at (HL.out.below HSd.out.1.below).areas i hia hil
    rw [hbb] at q3
    rw [← HAE.out] at b0 b1 b2 b3 b4 b5 b6
    clear hbb
    refine region_any (by kernel_rfl) ?_;revert hF;refine zra (fuel := 3) [1, 33, 65, 97, 138, 169, 212, 225, 257, 298, 329, 372, 393, 436, 449, 490, 521, 564] [18] fun a hF => ?_;refine any_one (n := 18) (fuel := 2) (by kernel_rfl) ?_;revert hF;refine zoc fun K hK => ?_
    refine (rin_any _ ar.box q.2 x.y).mono ?_
    rintro e wi ⟨rfl, hbi⟩
    clear e0 e1 e2 e3 e4 e5 e6 e7 b0 b1 b2 b3 b4 b5 b6 q0 q1 q2 q3 q4 q5 q6 q7
    have HSi : Hid (RvE w0 wi l gl gr la ca ∧ RvO w0 wi v (svF (reachS l.aisles l.doors) l (allRows l).length ++ arF (reachS l.aisles l.doors) l i ++ filF (allRows l) (fun r => inAreaB ar r) (fun r => ⟨13, ar.at', r.at'⟩) k) ∧ OwnR w0 wi ta tc ((seatsS x).map (seatRow x))) := ⟨HSd.out.1.down hbi, HSd.out.2.1.down hbi, HSd.out.2.2.down hbi⟩
    clear HSd hbi
    refine hK _ _ (fun a hF => ?_);clear hK K;revert hF;refine zrb (fuel := 0) [618, 642] [1, 3, 4, 5, 21, 22, 23, 24, 25] fun a hF => ?_
    rw [← HSA.out] at hF
    exact hKCn _ _ ⟨hF, HSi⟩
   clear hF HS5
   rintro a w27 ⟨hF, HS⟩
   rw [inA_all] at hF
   revert hF;refine zrs [1] [1, 3, 4, 5, 21, 22, 308] fun a hF => ?_
   obtain ⟨t, ht⟩ : ∃ t, t = inAreaB ar x := ⟨_, rfl⟩
   rw [← ht] at hF hKCk
   clear ht
   cases t
   ·
    refine cond_no hF rfl ?_
    refine wp_skip ?_
    rw [if_neg (by decide), List.append_nil] at hKCk
    exact hKCk _ _ ⟨_, hF.sub ⟨rfl, rfl, rfl, rfl, rfl, rfl, trivial⟩, HS.out.1, HS.out.2.1⟩
   refine cond_yes hF rfl ?_
   rw [if_pos rfl] at hKCk
   have HSd : Hid (RvE w0 w27.drew l gl gr la ca ∧ RvO w0 w27.drew v (svF (reachS l.aisles l.doors) l (allRows l).length ++ arF (reachS l.aisles l.doors) l i ++ filF (allRows l) (fun r => inAreaB ar r) (fun r => ⟨13, ar.at', r.at'⟩) k)) := ⟨HS.out.1.down (below_d (Below.refl _ _)), HS.out.2.1.down (below_d (Below.refl _ _))⟩
   clear HS
   obtain ⟨ba, oba, hba, f0, f1, f2, f3, f4, f5, f6, f7⟩ := row_at HSd.out.1.all.recs k hks hks
   rw [← HXE.out] at f0 f1 f2 f3 f4 f5 f6 f7
   have HLA := Lib.hid hba
   rw [hba] at hF
   clear hba
   obtain ⟨q0, q1, q2, q3, q4, q5, q6, q7⟩ := HSd.out.1.arg.cells
   obtain ⟨bb, obb, hbb, b0, b1, b2, b3, b4, b5, b6⟩ := area_at (HL.out.below HSd.out.1.below).areas i hia hil
   rw [hbb] at q3
   rw [← HAE.out] at b0 b1 b2 b3 b4 b5 b6
   clear hbb
   refine region_any (by kernel_rfl) ?_;revert hF;refine zra (fuel := 4) [1, 41, 84, 97, 138, 169, 212, 225, 257, 298, 329, 372] [12, 13, 14] fun a hF => ?_;refine any_one (n := 12) (fuel := 3) (by kernel_rfl) ?_;revert hF;refine zoc fun K hK => ?_
   refine (rfault_any _ ⟨13, ar.at', x.at'⟩).mono ?_
   rintro e wf ⟨rfl, hbf⟩
   clear f0 f1 f2 f3 f4 f5 f6 f7 b0 b1 b2 b3 b4 b5 b6 q0 q1 q2 q3 q4 q5 q6 q7
   have HS11 : Hid (RvE w0 wf l gl gr la ca ∧ RvO w0 wf v (svF (reachS l.aisles l.doors) l (allRows l).length ++ arF (reachS l.aisles l.doors) l i ++ filF (allRows l) (fun r => inAreaB ar r) (fun r => ⟨13, ar.at', r.at'⟩) k)) := ⟨HSd.out.1.down hbf, HSd.out.2.down hbf⟩
   clear HSd hbf
   refine hK _ _ (fun a hF => ?_);clear hK K;refine any_one (n := 13) (fuel := 2) (by kernel_rfl) ?_;revert hF;refine qe1 fun a hF => ?_
   obtain ⟨v', wz, hAPP, hbz, hoz, htz⟩ := rv_app ⟨13, ar.at', x.at'⟩ HS11.out.1.below HS11.out.2 (Nat.le_trans (HBK.out k) (by decide))
   have HSz : Hid (RvE w0 wz l gl gr la ca ∧ RvO w0 wz v' (svF (reachS l.aisles l.doors) l (allRows l).length ++ arF (reachS l.aisles l.doors) l i ++ filF (allRows l) (fun r => inAreaB ar r) (fun r => ⟨13, ar.at', r.at'⟩) k ++ [⟨13, ar.at', x.at'⟩])) := ⟨HS11.out.1.tupd hbz htz, hoz⟩
   clear HS11 hbz hoz htz
   refine any_one (n := 14) (fuel := 1) (by kernel_rfl) ?_;refine op_append rfl rfl rfl rfl rfl hF rfl rfl rfl hAPP (fun a hF => ?_);clear hAPP;revert hF;refine zrb (fuel := 0) [482] [1, 3, 4, 5, 21, 22] fun a hF => ?_
   rw [← HLA.out] at hF
   exact hKCk _ _ ⟨_, hF, HSz.out.1, HSz.out.2⟩
  clear hF HS24
  rintro a w30 ⟨v, hF, HS⟩
  have HS30 : Hid (RvE w0 w30 l gl gr la ca ∧ RvO w0 w30 v (svF (reachS l.aisles l.doors) l (allRows l).length ++ arF (reachS l.aisles l.doors) l i ++ filF (allRows l) (fun r => inAreaB ar r) (fun r => ⟨13, ar.at', r.at'⟩) (allRows l).length ++ filF l.areas (fun b => meetB ar.box b.box) (fun b => ⟨13, ar.at', b.at'⟩) 0)) := ⟨HS.out.1, by
   have : filF l.areas (fun b => meetB ar.box b.box) (fun b => ⟨13, ar.at', b.at'⟩) 0 = ([] : List FaultR) := rfl
   rw [this, List.append_nil]
   exact HS.out.2⟩
  clear HS
  refine seq_cut (fun a' w' => ∃ v : Value, FrF 399 [] [(1, .pointer (some ⟨gl, 0, none⟩)), (3, v), (4, .slice (some ⟨gr, 0, none⟩) l.sn l.sn), (5, .slice la (allRows l).length ca), (21, .int .i64 i)] a' ∧ Hid (RvE w0 w' l gl gr la ca ∧ RvO w0 w' v (svF (reachS l.aisles l.doors) l (allRows l).length ++ arF (reachS l.aisles l.doors) l i ++ filF (allRows l) (fun r => inAreaB ar r) (fun r => ⟨13, ar.at', r.at'⟩) (allRows l).length ++ filF l.areas (fun b => meetB ar.box b.box) (fun b => ⟨13, ar.at', b.at'⟩) i))) (fun KAm hKAm => ?_) ?_
  ·
   skip
   revert hF;refine zrs [2] [1, 3, 4, 5, 21, 26] fun a hF => ?_
   refine wp_block ?_
   refine loop_fr (fun qm a' w' => ∃ k : Nat, k + qm = i ∧ ∃ v : Value, FrF 399 [] [(1, .pointer (some ⟨gl, 0, none⟩)), (3, v), (4, .slice (some ⟨gr, 0, none⟩) l.sn l.sn), (5, .slice la (allRows l).length ca), (21, .int .i64 i), (26, .int .i64 k)] a' ∧ Hid (RvE w0 w' l gl gr la ca ∧ RvO w0 w' v (svF (reachS l.aisles l.doors) l (allRows l).length ++ arF (reachS l.aisles l.doors) l i ++ filF (allRows l) (fun r => inAreaB ar r) (fun r => ⟨13, ar.at', r.at'⟩) (allRows l).length ++ filF l.areas (fun b => meetB ar.box b.box) (fun b => ⟨13, ar.at', b.at'⟩) k))) (i) ⟨0, by omega, _, hF, HS30⟩ ?_
   clear hF HS30
   rintro rkm a w31 ⟨k, hikm, v, hF, HS⟩ KBm hKBm
   refine wp_seq_k (fun K hK => ?_)
   by_cases hlt : k < i
   rotate_left
   ·
    have hlti : ¬ (k : Int) < (i : Nat) := by omega

    revert hF;refine zrs [1, 1, 5] [1, 3, 4, 5, 21, 26, 326] fun a hF => ?_
    refine cond_no hF rfl ?_
    refine wp_exit ?_
    have hie : k = i := by omega
    rw [hie] at HS
    exact hKAm _ _ ⟨_, hF.sub ⟨rfl, rfl, rfl, rfl, rfl, trivial⟩, HS⟩
   have hlti : (k : Int) < (i : Nat) := by omega

   revert hF;refine zrs [1, 1, 5] [1, 3, 4, 5, 21, 26, 326] fun a hF => ?_
   refine cond_yes hF rfl ?_
   refine wp_skip ?_
   refine hK _ _ ?_;clear hK;replace hF := hF.kp [1, 3, 4, 5, 21, 26] rfl
   clear hKAm
   refine seq_cut (fun a' w' => ∃ v : Value, FrF 399 [] [(1, .pointer (some ⟨gl, 0, none⟩)), (3, v), (4, .slice (some ⟨gr, 0, none⟩) l.sn l.sn), (5, .slice la (allRows l).length ca), (21, .int .i64 i), (26, .int .i64 k)] a' ∧ Hid (RvE w0 w' l gl gr la ca ∧ RvO w0 w' v (svF (reachS l.aisles l.doors) l (allRows l).length ++ arF (reachS l.aisles l.doors) l i ++ filF (allRows l) (fun r => inAreaB ar r) (fun r => ⟨13, ar.at', r.at'⟩) (allRows l).length ++ filF l.areas (fun b => meetB ar.box b.box) (fun b => ⟨13, ar.at', b.at'⟩) (k + 1)))) (fun KCm hKCm => ?_) ?_
   rotate_left
   ·
    clear hF HS
    rintro a w' ⟨v, hF, HS⟩
    have hws : IntKind.i64.wrap ((k : Int) + 1) = ((k + 1 : Nat) : Int) := wrap_succ (by omega)
    revert hF;refine zrg [1, 4, 2] [1, 3, 4, 5, 21, 26] fun a hF => ?_
    exact hKBm (i - (k + 1)) _ _ (by omega) ⟨k + 1, by omega, _, hF, HS⟩
   clear hKBm hikm
   refine wp_block ?_
   have hka : k < l.an := by omega
   have hks : k < l.areas.length := by rw [HAN.out]; exact hka
   have hki : (k : Int) < (l.an : Nat) := by omega
   obtain ⟨br, hx⟩ : ∃ x, x = l.areas[k] := ⟨_, rfl⟩
   have hnx := filF_next (p := fun b => meetB ar.box b.box) (f := fun b => (⟨13, ar.at', b.at'⟩ : FaultR)) hks
   rw [← hx] at hnx
   rw [hnx, ← List.append_assoc] at hKCm
   clear hnx
   have HXE := Lib.hid hx
   clear hx
   have HSd : Hid (RvE w0 w31.drew l gl gr la ca ∧ RvO w0 w31.drew v (svF (reachS l.aisles l.doors) l (allRows l).length ++ arF (reachS l.aisles l.doors) l i ++ filF (allRows l) (fun r => inAreaB ar r) (fun r => ⟨13, ar.at', r.at'⟩) (allRows l).length ++ filF l.areas (fun b => meetB ar.box b.box) (fun b => ⟨13, ar.at', b.at'⟩) k)) := ⟨HS.out.1.down (below_d (Below.refl _ _)), HS.out.2.down (below_d (Below.refl _ _))⟩
   clear HS
   refine wp_seq_k (fun K hK => ?_)
   obtain ⟨q0, q1, q2, q3, q4, q5, q6, q7⟩ := HSd.out.1.arg.cells
   obtain ⟨bb, obb, hbb, b0, b1, b2, b3, b4, b5, b6⟩ := area_at (HL.out.below HSd.out.1.below).areas i hia hil
   rw [← HAE.out] at b0 b1 b2 b3 b4 b5 b6
   obtain ⟨bc, obc, hbc, d0, d1, d2, d3, d4, d5, d6⟩ := area_at (HL.out.below HSd.out.1.below).areas k hka hks
   rw [← HXE.out] at d0 d1 d2 d3 d4 d5 d6
   rw [hbb] at q3 hbc
   cases hbc
   clear hbb
   refine region_any (by kernel_rfl) ?_;revert hF;refine zra (fuel := 1) [9, 52, 65, 106, 137, 180, 201, 244, 257, 298, 329, 372] [12] fun a hF => ?_;refine any_one (n := 12) (fuel := 0) (by kernel_rfl) ?_;revert hF;refine zoc fun K hK => ?_
   refine (rmeet_any _ ar.box br.box).mono ?_
   rintro e wi ⟨rfl, hbi⟩
   clear d0 d1 d2 d3 d4 d5 d6 b0 b1 b2 b3 b4 b5 b6 q0 q1 q2 q3 q4 q5 q6 q7
   have HSi : Hid (RvE w0 wi l gl gr la ca ∧ RvO w0 wi v (svF (reachS l.aisles l.doors) l (allRows l).length ++ arF (reachS l.aisles l.doors) l i ++ filF (allRows l) (fun r => inAreaB ar r) (fun r => ⟨13, ar.at', r.at'⟩) (allRows l).length ++ filF l.areas (fun b => meetB ar.box b.box) (fun b => ⟨13, ar.at', b.at'⟩) k)) := ⟨HSd.out.1.down hbi, HSd.out.2.down hbi⟩
   clear HSd hbi
   refine hK _ _ (fun a hF => ?_);clear hK K;refine any_end (by kernel_rfl) ?_;replace hF := hF.kp [1, 3, 4, 5, 21, 26, 341] rfl;refine hK _ _ ?_;clear hK
   obtain ⟨t, ht⟩ : ∃ t, t = meetB ar.box br.box := ⟨_, rfl⟩
   rw [← ht] at hF hKCm
   clear ht
   cases t
   ·
    refine cond_no hF rfl ?_
    refine wp_skip ?_
    rw [if_neg (by decide), List.append_nil] at hKCm
    exact hKCm _ _ ⟨_, hF.sub ⟨rfl, rfl, rfl, rfl, rfl, rfl, trivial⟩, HSi⟩
   refine cond_yes hF rfl ?_
   rw [if_pos rfl] at hKCm
   have HSd : Hid (RvE w0 wi.drew l gl gr la ca ∧ RvO w0 wi.drew v (svF (reachS l.aisles l.doors) l (allRows l).length ++ arF (reachS l.aisles l.doors) l i ++ filF (allRows l) (fun r => inAreaB ar r) (fun r => ⟨13, ar.at', r.at'⟩) (allRows l).length ++ filF l.areas (fun b => meetB ar.box b.box) (fun b => ⟨13, ar.at', b.at'⟩) k)) := ⟨HSi.out.1.down (below_d (Below.refl _ _)), HSi.out.2.down (below_d (Below.refl _ _))⟩
   clear HSi
   obtain ⟨q0, q1, q2, q3, q4, q5, q6, q7⟩ := HSd.out.1.arg.cells
   obtain ⟨bb, obb, hbb, b0, b1, b2, b3, b4, b5, b6⟩ := area_at (HL.out.below HSd.out.1.below).areas i hia hil
   rw [← HAE.out] at b0 b1 b2 b3 b4 b5 b6
   obtain ⟨bc, obc, hbc, d0, d1, d2, d3, d4, d5, d6⟩ := area_at (HL.out.below HSd.out.1.below).areas k hka hks
   rw [← HXE.out] at d0 d1 d2 d3 d4 d5 d6
   rw [hbb] at q3 hbc
   cases hbc
   clear hbb
   refine region_any (by kernel_rfl) ?_;revert hF;refine zra (fuel := 4) [1, 41, 84, 97, 138, 169, 212, 233, 276, 289, 330, 361, 404] [13, 14, 15] fun a hF => ?_;refine any_one (n := 13) (fuel := 3) (by kernel_rfl) ?_;revert hF;refine zoc fun K hK => ?_
   refine (rfault_any _ ⟨13, ar.at', br.at'⟩).mono ?_
   rintro e wf ⟨rfl, hbf⟩
   clear d0 d1 d2 d3 d4 d5 d6 b0 b1 b2 b3 b4 b5 b6 q0 q1 q2 q3 q4 q5 q6 q7
   have HS11 : Hid (RvE w0 wf l gl gr la ca ∧ RvO w0 wf v (svF (reachS l.aisles l.doors) l (allRows l).length ++ arF (reachS l.aisles l.doors) l i ++ filF (allRows l) (fun r => inAreaB ar r) (fun r => ⟨13, ar.at', r.at'⟩) (allRows l).length ++ filF l.areas (fun b => meetB ar.box b.box) (fun b => ⟨13, ar.at', b.at'⟩) k)) := ⟨HSd.out.1.down hbf, HSd.out.2.down hbf⟩
   clear HSd hbf
   refine hK _ _ (fun a hF => ?_);clear hK K;refine any_one (n := 14) (fuel := 2) (by kernel_rfl) ?_;revert hF;refine qe1 fun a hF => ?_
   obtain ⟨v', wz, hAPP, hbz, hoz, htz⟩ := rv_app ⟨13, ar.at', br.at'⟩ HS11.out.1.below HS11.out.2 (Nat.le_trans (HBM.out k) (by decide))
   have HSz : Hid (RvE w0 wz l gl gr la ca ∧ RvO w0 wz v' (svF (reachS l.aisles l.doors) l (allRows l).length ++ arF (reachS l.aisles l.doors) l i ++ filF (allRows l) (fun r => inAreaB ar r) (fun r => ⟨13, ar.at', r.at'⟩) (allRows l).length ++ filF l.areas (fun b => meetB ar.box b.box) (fun b => ⟨13, ar.at', b.at'⟩) k ++ [⟨13, ar.at', br.at'⟩])) := ⟨HS11.out.1.tupd hbz htz, hoz⟩
   clear HS11 hbz hoz htz
   refine any_one (n := 15) (fuel := 1) (by kernel_rfl) ?_;refine op_append rfl rfl rfl rfl rfl hF rfl rfl rfl hAPP (fun a hF => ?_);clear hAPP;revert hF;refine zrb (fuel := 0) [514] [1, 3, 4, 5, 21, 26] fun a hF => ?_
   exact hKCm _ _ ⟨_, hF, HSz.out.1, HSz.out.2⟩
  clear hF HS30
  rintro a w35 ⟨v, hF, HS⟩
  have HS39 := HS
  clear HS
  revert hF;refine zrs [2] [1, 3, 4, 5, 21, 27] fun a hF => ?_
  have hz : opB (reachS l.aisles l.doors) l (fun b => meetB ar.box b) 0 = false := rfl
  rw [← hz] at hF
  clear hz
  refine seq_cut (fun a' w' => FrF 399 [] [(1, .pointer (some ⟨gl, 0, none⟩)), (3, v), (4, .slice (some ⟨gr, 0, none⟩) l.sn l.sn), (5, .slice la (allRows l).length ca), (21, .int .i64 i), (27, .bool (opB (reachS l.aisles l.doors) l (fun b => meetB ar.box b) l.aisles.length))] a' ∧ Hid (RvE w0 w' l gl gr la ca ∧ RvO w0 w' v (svF (reachS l.aisles l.doors) l (allRows l).length ++ arF (reachS l.aisles l.doors) l i ++ filF (allRows l) (fun r => inAreaB ar r) (fun r => ⟨13, ar.at', r.at'⟩) (allRows l).length ++ filF l.areas (fun b => meetB ar.box b.box) (fun b => ⟨13, ar.at', b.at'⟩) i))) (fun KAo hKAo => ?_) ?_
  ·
   skip
   revert hF;refine zrs [2] [1, 3, 4, 5, 21, 27, 28] fun a hF => ?_
   refine wp_block ?_
   refine loop_fr (fun qo a' w' => ∃ n : Nat, n + qo = l.sn ∧ FrF 399 [] [(1, .pointer (some ⟨gl, 0, none⟩)), (3, v), (4, .slice (some ⟨gr, 0, none⟩) l.sn l.sn), (5, .slice la (allRows l).length ca), (21, .int .i64 i), (27, .bool (opB (reachS l.aisles l.doors) l (fun b => meetB ar.box b) n)), (28, .int .i64 n)] a' ∧ Hid (RvE w0 w' l gl gr la ca ∧ RvO w0 w' v (svF (reachS l.aisles l.doors) l (allRows l).length ++ arF (reachS l.aisles l.doors) l i ++ filF (allRows l) (fun r => inAreaB ar r) (fun r => ⟨13, ar.at', r.at'⟩) (allRows l).length ++ filF l.areas (fun b => meetB ar.box b.box) (fun b => ⟨13, ar.at', b.at'⟩) i))) (l.sn) ⟨0, by omega, hF, HS39⟩ ?_
   clear hF HS39
   rintro rko a wr ⟨n, hiko, hF, HS⟩ KBo hKBo
   refine wp_seq_k (fun K hK => ?_)
   by_cases hlt : n < l.sn
   rotate_left
   ·
    have hlti : ¬ (n : Int) < (l.sn : Nat) := by omega
    obtain ⟨q0, q1, q2, q3, q4, q5, q6, q7⟩ := HS.out.1.arg.cells
    revert hF;refine zrs [1, 4, 4, 4, 5] [1, 3, 4, 5, 21, 27, 28, 362] fun a hF => ?_
    clear q0 q1 q2 q3 q4 q5 q6 q7
    refine cond_no hF rfl ?_
    refine wp_exit ?_
    have hie : n = l.aisles.length := by rw [HSN.out]; omega
    rw [hie] at hF
    exact hKAo _ _ ⟨hF.sub ⟨rfl, rfl, rfl, rfl, rfl, rfl, trivial⟩, HS⟩
   have hlti : (n : Int) < (l.sn : Nat) := by omega
   obtain ⟨q0, q1, q2, q3, q4, q5, q6, q7⟩ := HS.out.1.arg.cells
   revert hF;refine zrs [1, 4, 4, 4, 5] [1, 3, 4, 5, 21, 27, 28, 362] fun a hF => ?_
   clear q0 q1 q2 q3 q4 q5 q6 q7
   refine cond_yes hF rfl ?_
   refine wp_skip ?_
   refine hK _ _ ?_;clear hK;replace hF := hF.kp [1, 3, 4, 5, 21, 27, 28] rfl
   clear hKAo
   refine seq_cut (fun a' w' => FrF 399 [] [(1, .pointer (some ⟨gl, 0, none⟩)), (3, v), (4, .slice (some ⟨gr, 0, none⟩) l.sn l.sn), (5, .slice la (allRows l).length ca), (21, .int .i64 i), (27, .bool (opB (reachS l.aisles l.doors) l (fun b => meetB ar.box b) (n + 1))), (28, .int .i64 n)] a' ∧ Hid (RvE w0 w' l gl gr la ca ∧ RvO w0 w' v (svF (reachS l.aisles l.doors) l (allRows l).length ++ arF (reachS l.aisles l.doors) l i ++ filF (allRows l) (fun r => inAreaB ar r) (fun r => ⟨13, ar.at', r.at'⟩) (allRows l).length ++ filF l.areas (fun b => meetB ar.box b.box) (fun b => ⟨13, ar.at', b.at'⟩) i))) (fun KCo hKCo => ?_) ?_
   rotate_left
   ·
    clear hF HS
    rintro a w' ⟨hF, HS⟩
    have hws : IntKind.i64.wrap ((n : Int) + 1) = ((n + 1 : Nat) : Int) := wrap_succ (by omega)
    revert hF;refine zrg [1, 4, 2] [1, 3, 4, 5, 21, 27, 28] fun a hF => ?_
    exact hKBo (l.sn - (n + 1)) _ _ (by omega) ⟨n + 1, by omega, hF, HS⟩
   clear hKBo hiko
   refine wp_block ?_
   have hns : n < l.aisles.length := by rw [HSN.out]; exact hlt
   have hnr : n < (reachS l.aisles l.doors).length := by rw [reachS_len]; exact hns
   rw [opB_next hns hnr] at hKCo
   obtain ⟨bx1, hbx⟩ : ∃ b, b = l.aisles[n] := ⟨_, rfl⟩
   have HBX := Lib.hid hbx
   rw [← hbx] at hKCo
   clear hbx
   have HSd : Hid (RvE w0 wr.drew l gl gr la ca ∧ RvO w0 wr.drew v (svF (reachS l.aisles l.doors) l (allRows l).length ++ arF (reachS l.aisles l.doors) l i ++ filF (allRows l) (fun r => inAreaB ar r) (fun r => ⟨13, ar.at', r.at'⟩) (allRows l).length ++ filF l.areas (fun b => meetB ar.box b.box) (fun b => ⟨13, ar.at', b.at'⟩) i)) := ⟨HS.out.1.down (below_d (Below.refl _ _)), HS.out.2.down (below_d (Below.refl _ _))⟩
   clear HS
   obtain ⟨c, hc⟩ : ∃ c, c = opB (reachS l.aisles l.doors) l (fun b => meetB ar.box b) n := ⟨_, rfl⟩
   rw [← hc] at hF hKCo
   clear hc
   cases c
   rotate_left
   ·
    refine region_any (by kernel_rfl) ?_;revert hF;refine zrb (fuel := 0) [1, 33, 64, 96, 128, 176, 192, 224, 272, 288, 320, 352, 400, 416, 464, 480, 512, 560, 592, 608, 650, 674] [1, 3, 4, 5, 21, 27, 28] fun a hF => ?_
    exact hKCo _ _ ⟨hF, HSd⟩
   have cr := HSd.out.1.re.cell n hnr
   obtain ⟨c2, hc2⟩ : ∃ c, c = bx (reachS l.aisles l.doors) n := ⟨_, rfl⟩
   rw [← hc2] at cr hKCo
   clear hc2
   cases c2
   ·
    refine region_any (by kernel_rfl) ?_;revert hF;refine zrb (fuel := 0) [1, 33, 65, 97, 138, 180, 193, 224, 272, 288, 320, 352, 400, 416, 464, 480, 512, 560, 592, 618, 650, 674] [1, 3, 4, 5, 21, 27, 28] fun a hF => ?_
    exact hKCo _ _ ⟨hF, HSd⟩
   obtain ⟨q0, q1, q2, q3, q4, q5, q6, q7⟩ := HSd.out.1.arg.cells
   obtain ⟨bb, obb, hbb, b0, b1, b2, b3, b4, b5, b6⟩ := area_at (HL.out.below HSd.out.1.below).areas i hia hil
   rw [← HAE.out] at b0 b1 b2 b3 b4 b5 b6
   rw [hbb] at q3
   clear hbb
   obtain ⟨bc, obc, hbc, d0, d1, d2, d3⟩ := box_at (HL.out.below HSd.out.1.below).aisles n hlt hns
   rw [hbc] at q4
   rw [← HBX.out] at d0 d1 d2 d3
   clear hbc
   refine region_any (by kernel_rfl) ?_;revert hF;refine zra (fuel := 4) [1, 33, 65, 97, 138, 180, 193, 233, 276, 289, 330, 361, 404, 425, 468, 481, 522, 564] [18] fun a hF => ?_;refine any_one (n := 18) (fuel := 3) (by kernel_rfl) ?_;revert hF;refine zoc fun K hK => ?_
   refine (rmeet_any _ ar.box bx1).mono ?_
   rintro e wi ⟨rfl, hbi⟩
   clear d0 d1 d2 d3 b0 b1 b2 b3 b4 b5 b6 q0 q1 q2 q3 q4 q5 q6 q7 cr
   have HSi : Hid (RvE w0 wi l gl gr la ca ∧ RvO w0 wi v (svF (reachS l.aisles l.doors) l (allRows l).length ++ arF (reachS l.aisles l.doors) l i ++ filF (allRows l) (fun r => inAreaB ar r) (fun r => ⟨13, ar.at', r.at'⟩) (allRows l).length ++ filF l.areas (fun b => meetB ar.box b.box) (fun b => ⟨13, ar.at', b.at'⟩) i)) := ⟨HSd.out.1.down hbi, HSd.out.2.down hbi⟩
   clear HSd hbi
   refine hK _ _ (fun a hF => ?_);clear hK K;revert hF;refine zrb (fuel := 0) [618, 650, 674] [1, 3, 4, 5, 21, 27, 28] fun a hF => ?_
   exact hKCo _ _ ⟨hF, HSi⟩
  clear hF HS39
  rintro a w40 ⟨hF, HS⟩
  rw [opB_all _ (by rw [reachS_len])] at hF
  revert hF;refine zrs [1, 4] [1, 3, 4, 5, 21, 387] fun a hF => ?_
  obtain ⟨t, ht⟩ : ∃ t, t = openB (reachS l.aisles l.doors) l (fun b => meetB ar.box b) := ⟨_, rfl⟩
  rw [← ht] at hF hKCa
  clear ht
  cases t
  rotate_left
  ·
   refine cond_no hF rfl ?_
   refine wp_skip ?_
   have hif : (if true = true then ([] : List FaultR) else [⟨14, ar.at', -1⟩]) = [] := rfl
   rw [hif, List.append_nil] at hKCa
   exact hKCa _ _ ⟨_, hF.sub ⟨rfl, rfl, rfl, rfl, rfl, trivial⟩, HS.out.1, HS.out.2⟩
  refine cond_yes hF rfl ?_
  have hif : (if false = true then ([] : List FaultR) else [⟨14, ar.at', -1⟩]) = [⟨14, ar.at', -1⟩] := rfl
  rw [hif] at hKCa
  clear hif
  obtain ⟨q0, q1, q2, q3, q4, q5, q6, q7⟩ := HS.out.1.arg.cells
  obtain ⟨bb, obb, hbb, b0, b1, b2, b3, b4, b5, b6⟩ := area_at (HL.out.below HS.out.1.below).areas i hia hil
  rw [← HAE.out] at b0 b1 b2 b3 b4 b5 b6
  rw [hbb] at q3
  clear hbb
  revert hF;refine zrp [1, 4, 4, 1, 5, 4, 4] [7, 8, 9, 10] fun a hF => ?_;revert hF;refine zos fun K hK => ?_
  refine (rfault_any _ ⟨14, ar.at', (-1)⟩).mono ?_
  rintro e wf ⟨rfl, hbf⟩
  clear b0 b1 b2 b3 b4 b5 b6 q0 q1 q2 q3 q4 q5 q6 q7
  have HS11 : Hid (RvE w0 wf l gl gr la ca ∧ RvO w0 wf v (svF (reachS l.aisles l.doors) l (allRows l).length ++ arF (reachS l.aisles l.doors) l i ++ filF (allRows l) (fun r => inAreaB ar r) (fun r => ⟨13, ar.at', r.at'⟩) (allRows l).length ++ filF l.areas (fun b => meetB ar.box b.box) (fun b => ⟨13, ar.at', b.at'⟩) i)) := ⟨HS.out.1.down hbf, HS.out.2.down hbf⟩
  clear HS hbf
  refine hK _ _ (fun a hF => ?_);clear hK K;refine seq_one ?_;revert hF;refine qe1 fun a hF => ?_
  obtain ⟨v', wz, hAPP, hbz, hoz, htz⟩ := rv_app ⟨14, ar.at', (-1)⟩ HS11.out.1.below HS11.out.2 (by have := HBM.out i; omega)
  have HSz : Hid (RvE w0 wz l gl gr la ca ∧ RvO w0 wz v' (svF (reachS l.aisles l.doors) l (allRows l).length ++ arF (reachS l.aisles l.doors) l i ++ filF (allRows l) (fun r => inAreaB ar r) (fun r => ⟨13, ar.at', r.at'⟩) (allRows l).length ++ filF l.areas (fun b => meetB ar.box b.box) (fun b => ⟨13, ar.at', b.at'⟩) i ++ [⟨14, ar.at', (-1)⟩])) := ⟨HS11.out.1.tupd hbz htz, hoz⟩
  clear HS11 hbz hoz htz
  refine seq_one ?_;refine op_append rfl rfl rfl rfl rfl hF rfl rfl rfl hAPP (fun a hF => ?_);clear hAPP;revert hF;refine zre 10 [2] [1, 3, 4, 5, 21] fun a hF => ?_
  exact hKCa _ _ ⟨_, hF, HSz.out.1, HSz.out.2⟩
 clear hF HS22
 rintro a w45 ⟨v, hF, HS⟩
 revert hF;refine zrs [1, 2] [2] fun a hF => ?_;refine wp_ret ?_;(try simp only [then_ret, block_ret, goto_ret]);revert hF;refine zq ?_
 have he : svF (reachS l.aisles l.doors) l (allRows l).length ++ arF (reachS l.aisles l.doors) l l.areas.length = severalS l := by
  unfold severalS svF
  rw [several_eq, List.take_length]
 have ho := HS.out.2
 rw [he] at ho
 exact ⟨v, rfl, HS.out.1.below, ho⟩
end Go.Proofs.YtmcdhggnpfhlmaaGreat
