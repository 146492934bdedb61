/- ledger: postings in memory; a booking is well-formed; totals: the walks. -/
import Derived.Test.YtafhdpalobalkaaL2
import Derived.Test.YtafhdpalobalkaaRec
import Derived.OwnWalk
import Derived.Shelf.Abstract
namespace Go.Proofs.Ytafhdpalobalkaa
open Go.RowKit Go.IntWalk

/-- A posting in memory: three cells. -/
def PostE : Enc PostT 3 := ⟨fun x => [.int .i64 x.1.1, .string (bs x.1.2), .int .i64 x.2], fun _ => rfl, fun x v hv => by
  simp only [List.mem_cons, List.not_mem_nil, or_false] at hv
  rcases hv with rfl | rfl | rfl <;> rfl, by decide⟩

/-- Kind, name and amount of a posting, behind names that simp does not open. -/
def pk (l : List PostT) (i : Nat) : Int := (l.getD i ((0, []), 0)).1.1
def pn (l : List PostT) (i : Nat) : Name := (l.getD i ((0, []), 0)).1.2
def pa (l : List PostT) (i : Nat) : Int := (l.getD i ((0, []), 0)).2

theorem pk_eq (l : List PostT) (i : Nat) (h : i < l.length) : pk l i = l[i].1.1 := by unfold pk; rw [List.getD_eq_getElem?_getD, List.getElem?_eq_getElem h]; rfl
theorem pn_eq (l : List PostT) (i : Nat) (h : i < l.length) : pn l i = l[i].1.2 := by unfold pn; rw [List.getD_eq_getElem?_getD, List.getElem?_eq_getElem h]; rfl
theorem pa_eq (l : List PostT) (i : Nat) (h : i < l.length) : pa l i = l[i].2 := by unfold pa; rw [List.getD_eq_getElem?_getD, List.getElem?_eq_getElem h]; rfl
theorem post_eq (l : List PostT) (i : Nat) (h : i < l.length) : l[i] = ((pk l i, pn l i), pa l i) := by rw [pk_eq _ _ h, pn_eq _ _ h, pa_eq _ _ h]

theorem post_ext {A B : List PostT} (hl : A.length = B.length) (h : ∀ i, i < A.length → pk A i = pk B i ∧ pn A i = pn B i ∧ pa A i = pa B i) : A = B := by
  apply List.ext_getElem hl
  intro i h1 h2
  rw [post_eq _ _ h1, post_eq _ _ h2, (h i h1).1, (h i h1).2.1, (h i h1).2.2]

/-- The address and length read as the postings l. -/
abbrev Posts (w : World) (ra : Option Addr) (n : Nat) (l : List PostT) : Prop := Recs PostE w ra n l

theorem Posts.at {w : World} {ra : Option Addr} {n : Nat} {l : List PostT} (h : Posts w ra n l) (i : Nat) (hi : i < n) : ∃ b o, ra = some ⟨b, o, none⟩ ∧ w.cell? ⟨b, o + i * 3, none⟩ = some (.int .i64 (pk l i)) ∧ w.cell? ⟨b, o + i * 3 + 1, none⟩ = some (.string (bs (pn l i))) ∧ w.cell? ⟨b, o + i * 3 + 2, none⟩ = some (.int .i64 (pa l i)) := by
  obtain ⟨b, o, e, c⟩ := h.2 i hi
  have hl : i < l.length := by rw [h.1]; exact hi
  have c0 := c 0 (by omega)
  have c1 := c 1 (by omega)
  have c2 := c 2 (by omega)
  rw [rc_eq _ _ hl] at c0 c1 c2
  exact ⟨b, o, e, by rw [pk_eq _ _ hl]; exact c0, by rw [pn_eq _ _ hl]; exact c1, by rw [pa_eq _ _ hl]; exact c2⟩

/-- A box of three cells. -/
def Boxed3 (W : World) (b : Nat) (u v x : Value) (T : TypeId) : Prop := W.heap[b]? = some (.cells #[u, v, x] T (0, 0))
theorem Boxed3.c0 {W : World} {b : Nat} {u v x : Value} {T : TypeId} (h : Boxed3 W b u v x T) : W.cell? ⟨b, 0, none⟩ = some u := by rw [cell_of_row _ _ _ _ _ _ h]; rfl
theorem Boxed3.c1 {W : World} {b : Nat} {u v x : Value} {T : TypeId} (h : Boxed3 W b u v x T) : W.cell? ⟨b, 1, none⟩ = some v := by rw [cell_of_row _ _ _ _ _ _ h]; rfl
theorem Boxed3.c2 {W : World} {b : Nat} {u v x : Value} {T : TypeId} (h : Boxed3 W b u v x T) : W.cell? ⟨b, 2, none⟩ = some x := by rw [cell_of_row _ _ _ _ _ _ h]; rfl
theorem Boxed3.step {W W' : World} {b : Nat} {u v x : Value} {T : TypeId} (h : Boxed3 W b u v x T) (hb : Below W.heap.size W W') : Boxed3 W' b u v x T := (hb.block b (lt_of_block h)).trans h

/-- A posting that may not be. -/
def badS (p : PostT) : Bool := !accS p.1 || (!amtB p.2 || decide (p.2 = 0))

/-- A booking is well-formed. -/
def formedS (b : BookT) : Bool := (decide (1 ≤ b.1) && decide (b.1 ≤ 1000000000)) && ((decide (2 ≤ b.2.length) && decide (b.2.length ≤ 20)) && !b.2.any badS)

set_option maxRecDepth 10000 in
set_option maxHeartbeats 800000 in
theorem bad_any (k : Int) (t : Name) (a : Int) (hlen : t.length ≤ 9223372036854775807) (w : World) : Calls Try.prog 46 #[.agg #[.int .i64 k, .string (bs t), .int .i64 a]] w fun e w' => e = .returned (.bool (badS ((k, t), a))) ∧ Below w.heap.size w w' := by
  have HB : Hid (Below w.heap.size w (w.alloc (.cells #[.int .i64 k, .string (bs t), .int .i64 a] 44))) := Joins.below_alloc1 w _
  have HX : Hid (Boxed3 (w.alloc (.cells #[.int .i64 k, .string (bs t), .int .i64 a] 44)) w.heap.size (.int .i64 k) (.string (bs t)) (.int .i64 a) 44) := World.alloc_heap_new w _
  have HV : Hid (badS ((k, t), a) = (!accS (k, t) || (!amtB a || decide (a = 0)))) := rfl
  go_enter Try.func46, Try.ntmps46
  go_upto_region 1 with fail
  generalize w.alloc (.cells #[.int .i64 k, .string (bs t), .int .i64 a] 44) = w1 at *
  have x0 := HX.out.c0
  have x1 := HX.out.c1
  have x2 := HX.out.c2
  go_wp2_with fail
  refine (valid_any k t hlen w1).mono ?_
  rintro e w2 ⟨rfl, hb2⟩
  have HB2 := Lib.hid (HB.out.trans (hb2.mono HB.out.size))
  have HX2 := Lib.hid (HX.out.step hb2)
  clear x0 x1 x2 hb2
  have x2 := HX2.out.c2
  cases ha : accS (k, t)
  · have HR : Hid (badS ((k, t), a) = true) := by show _ = _; rw [HV.out, ha]; rfl
    clear ha
    go_wp2_with fail
    go_ret
    exact ⟨by rw [HR.out]; rfl, HB2.out⟩
  · rw [ha] at HV
    clear ha
    go_wp2_with fail
    refine (mvalid_any a w2).mono ?_
    rintro e w3 ⟨rfl, rfl⟩
    cases hm : amtB a
    · have HR : Hid (badS ((k, t), a) = true) := by show _ = _; rw [HV.out, hm]; rfl
      clear hm
      go_wp2_with fail
      go_ret
      exact ⟨by rw [HR.out]; rfl, HB2.out⟩
    · rw [hm] at HV
      clear hm
      by_cases h0 : a = 0
      · have e0 : (a == 0) = true := by simp [h0]
        have HR : Hid (badS ((k, t), a) = true) := by show _ = _; rw [HV.out]; simp [h0]
        subst h0
        go_wp2_with fail
        go_ret
        exact ⟨by rw [HR.out]; rfl, HB2.out⟩
      · have e0 : (a == 0) = false := by simp [h0]
        have HR : Hid (badS ((k, t), a) = false) := by show _ = _; rw [HV.out]; simp [h0]
        clear h0
        go_wp2_with fail
        go_ret
        exact ⟨by rw [HR.out]; rfl, HB2.out⟩

/-- The first place from k on, of n, where p holds; -1 if there is none. -/
def firstAt (p : Nat → Bool) (k : Nat) : Nat → Int
  | 0 => -1
  | n + 1 => if p k then k else firstAt p (k + 1) n

theorem firstAt_step (p : Nat → Bool) (n i : Nat) (h : i < n) : firstAt p i (n - i) = if p i then (i : Int) else firstAt p (i + 1) (n - (i + 1)) := by
  obtain ⟨m, hm⟩ : ∃ m, n - i = m + 1 := ⟨n - i - 1, by omega⟩
  rw [hm, firstAt, show n - (i + 1) = m from by omega]

theorem firstAt_any (p : Nat → Bool) : ∀ (n k : Nat), decide (0 ≤ firstAt p k n) = (List.range n).any fun i => p (k + i)
  | 0, k => rfl
  | n + 1, k => by
    rw [firstAt, List.range_succ_eq_map, List.any_cons, Nat.add_zero]
    cases h : p k
    · simp only [Bool.false_eq_true, if_false, Bool.false_or]
      rw [firstAt_any p n (k + 1), List.any_map]
      congr 1
      funext i
      show p (k + 1 + i) = p (k + (i + 1))
      congr 1
      omega
    · simp

theorem any_range (L : List PostT) (p : PostT → Bool) : (List.range L.length).any (fun i => p ((pk L i, pn L i), pa L i)) = L.any p := by
  rw [Bool.eq_iff_iff, List.any_eq_true, List.any_eq_true]
  constructor
  · rintro ⟨i, hi, h⟩
    rw [List.mem_range] at hi
    exact ⟨L[i], List.getElem_mem hi, by rw [post_eq _ _ hi]; exact h⟩
  · rintro ⟨x, hx, h⟩
    obtain ⟨i, hi, rfl⟩ := List.getElem_of_mem hx
    exact ⟨i, List.mem_range.mpr hi, by rw [← post_eq _ _ hi]; exact h⟩

set_option maxRecDepth 10000 in
set_option maxHeartbeats 400000 in
theorem index_posts (f : Nat) (cap : Array Value) (p : PostT → Bool) (ra : Option Addr) (n c : Nat) (l : List PostT) (w : World)
    (hn : n ≤ 4000) (hcf : ∀ (args : Array Value) (w : World), (callFunc f args).run Try.prog w = .ok (.enter f args) w) (hM : Posts w ra n l)
    (hcl : ∀ k wr, Below w.heap.size w wr → k < n → Calls Try.prog f (#[.agg #[.int .i64 (pk l k), .string (bs (pn l k)), .int .i64 (pa l k)]] ++ cap) wr fun e w' => e = .returned (.bool (p ((pk l k, pn l k), pa l k))) ∧ Below wr.heap.size wr w') :
    Calls Try.prog 55 #[.slice ra n c, .func (.func f) #[] cap] w fun e w' => e = .returned (.int .i64 (firstAt (fun k => p ((pk l k, pn l k), pa l k)) 0 n)) ∧ Below w.heap.size w w' := by
  have HM := Lib.hid hM
  have HCL := Lib.hid hcl
  clear hM hcl
  go_enter Try.func55, Try.ntmps55
  go_wp2
  go_loopw [4, 5, 8] (fun _ _ k wr => ∃ i : Nat, i ≤ n ∧ k = .int .i64 i ∧ Below w.heap.size w wr ∧ Hid (firstAt (fun k => p ((pk l k, pn l k), pa l k)) 0 n = firstAt (fun k => p ((pk l k, pn l k), pa l k)) i (n - i)))
    (fun _ _ k _ => n - (intOf k).toNat)
  case atStart => exact ⟨0, Nat.zero_le _, rfl, Below.refl _ _, rfl⟩
  case round =>
    obtain ⟨i, hi, rfl, hb, HR⟩ := hrel
    by_cases hlt : i < n
    · obtain ⟨b, o, rfl, r0, r1, r2⟩ := Posts.at (HM.out.below hb) i hlt
      have HC := Lib.hid (HCL.out i wr hb hlt)
      have HS := Lib.hid (firstAt_step (fun k => p ((pk l k, pn l k), pa l k)) n i hlt)
      obtain ⟨q, hq⟩ : ∃ q, q = p ((pk l i, pn l i), pa l i) := ⟨_, rfl⟩
      rw [← hq] at HC HS
      clear hq
      go_wp2_with fail
      refine HC.out.mono ?_
      rintro e w1 ⟨rfl, hb1⟩
      have hb2 := Lib.hid (hb.trans (hb1.mono hb.size))
      clear hb hb1 r0 r1 r2
      cases q
      · go_wp2
        go_roundw
        case rel => exact ⟨i + 1, by omega, by go_num, hb2.out, by rw [HR.out, HS.out]; simp [Hid]⟩
        case measure => simp [intOf]; omega
      · go_wp2
        go_ret
        exact ⟨by rw [HR.out, HS.out]; simp, hb2.out⟩
    · go_wp2
      go_ret
      exact ⟨by rw [HR.out, show n - i = 0 from by omega]; rfl, hb⟩

theorem hcfb (args : Array Value) (w : World) : (callFunc 46 args).run Try.prog w = .ok (.enter 46 args) w := enters_of Try.func46 (by kernel_rfl) rfl args w

theorem contains_bad (ra : Option Addr) (n c : Nat) (l : List PostT) (w : World) (hn : n ≤ 4000) (hM : Posts w ra n l) (hl : ∀ i, i < n → (pn l i).length ≤ 9223372036854775807) :
    Calls Try.prog 45 #[.slice ra n c, .func (.func 46) #[] #[]] w fun e w' => e = .returned (.bool (l.any badS)) ∧ Below w.heap.size w w' := by
  have HC := Lib.hid (index_posts 46 #[] badS ra n c l w hn hcfb hM (fun k wr _ hk => bad_any (pk l k) (pn l k) (pa l k) (hl k hk) wr))
  have HR : Hid (decide (0 ≤ firstAt (fun k => badS ((pk l k, pn l k), pa l k)) 0 n) = l.any badS) := by
    show _ = _
    rw [firstAt_any, ← any_range l badS, hM.1]
    simp only [Nat.zero_add]
  clear hM hl
  go_enter Try.func45, Try.ntmps45
  go_wp2_with fail
  refine HC.out.mono ?_
  rintro e w1 ⟨rfl, hb⟩
  have HB := Lib.hid hb
  clear hb
  generalize firstAt (fun k => badS ((pk l k, pn l k), pa l k)) 0 n = z at *
  go_wp2_with fail
  go_ret
  exact ⟨by rw [← HR.out]; rfl, HB.out⟩

set_option maxRecDepth 10000 in
set_option maxHeartbeats 800000 in
theorem formed_any (id : Int) (ra : Option Addr) (n c : Nat) (l : List PostT) (w : World) (hn : n ≤ 9223372036854775807) (hM : Posts w ra n l) (hl : ∀ i, i < n → (pn l i).length ≤ 9223372036854775807) :
    Calls Try.prog 30 #[.agg #[.int .i64 id, .slice ra n c]] w fun e w' => e = .returned (.bool (formedS (id, l))) ∧ Below w.heap.size w w' := by
  have hb := Joins.below_alloc1 w (.cells #[.int .i64 id, .slice ra n c] 34)
  have HB := Lib.hid hb
  have HX : Hid (Boxed2 (w.alloc (.cells #[.int .i64 id, .slice ra n c] 34)) w.heap.size (.int .i64 id) (.slice ra n c) 34) := World.alloc_heap_new w _
  have HM := Lib.hid (hM.below hb)
  have HL := Lib.hid hl
  have HV : Hid (formedS (id, l) = ((decide (1 ≤ id) && decide (id ≤ 1000000000)) && ((decide (2 ≤ n) && decide (n ≤ 20)) && !l.any badS))) := by show _ = _; unfold formedS; rw [hM.1]
  clear hb hM hl
  go_enter Try.func30, Try.ntmps30
  go_upto_region 1 with fail
  generalize w.alloc (.cells #[.int .i64 id, .slice ra n c] 34) = w1 at *
  have x0 := HX.out.c0
  have x1 := HX.out.c1
  by_cases h1 : 1 ≤ id
  · have e1 : decide (1 ≤ id) = true := by simp; omega
    rw [e1] at HV
    by_cases h2 : id ≤ 1000000000
    · have e2 : decide (id ≤ 1000000000) = true := by simp; omega
      rw [e2] at HV
      by_cases h3 : 2 ≤ n
      · have e3 : decide (2 ≤ n) = true := by simp; omega
        have e3' : decide ((2 : Int) ≤ n) = true := by simp; omega
        rw [e3] at HV
        clear e3
        by_cases h4 : n ≤ 20
        · have e4 : decide (n ≤ 20) = true := by simp; omega
          have e4' : decide ((n : Int) ≤ 20) = true := by simp; omega
          rw [e4] at HV
          clear e4
          go_wp2_with fail
          refine (contains_bad ra n c l w1 (by omega) HM.out HL.out).mono ?_
          rintro e w2 ⟨rfl, hb2⟩
          have HB2 := Lib.hid (HB.out.trans (hb2.mono HB.out.size))
          clear hb2
          obtain ⟨q, hq⟩ : ∃ q, l.any badS = q := ⟨_, rfl⟩
          rw [hq] at HV ⊢
          clear hq
          go_wp2_with fail
          go_ret
          exact ⟨by rw [HV.out]; cases q <;> rfl, HB2.out⟩
        · have e4 : decide (n ≤ 20) = false := by simp; omega
          have e4' : decide ((n : Int) ≤ 20) = false := by simp; omega
          rw [e4] at HV
          clear e4
          go_wp2_with fail
          go_ret
          exact ⟨by rw [HV.out]; rfl, HB.out⟩
      · have e3 : decide (2 ≤ n) = false := by simp; omega
        have e3' : decide ((2 : Int) ≤ n) = false := by simp; omega
        rw [e3] at HV
        clear e3
        go_wp2_with fail
        go_ret
        exact ⟨by rw [HV.out]; rfl, HB.out⟩
    · have e2 : decide (id ≤ 1000000000) = false := by simp; omega
      rw [e2] at HV
      go_wp2_with fail
      go_ret
      exact ⟨by rw [HV.out]; rfl, HB.out⟩
  · have e1 : decide (1 ≤ id) = false := by simp; omega
    rw [e1] at HV
    go_wp2_with fail
    go_ret
    exact ⟨by rw [HV.out]; rfl, HB.out⟩
end Go.Proofs.Ytafhdpalobalkaa
