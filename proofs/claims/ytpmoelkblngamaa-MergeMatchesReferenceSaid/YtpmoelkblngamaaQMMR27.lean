/- merge: slices.Backward over titles: the iterator's walk. -/
import Derived.Test.YtpmoelkblngamaaQMMR26
import Derived.RangeFuncNested
import Derived.RangeFuncBound
import Derived.RangeFuncCalls
import Derived.RangeFuncLeaves
import Derived.OwnWalkIn
import Derived.TacticsInMore
import Derived.LoopNIn
import Derived.LoopIn
import Derived.WalkMore

namespace Go.Proofs.Ytpmoelkblngamaa
open Go.RowKit Go.Shelf Go.IntWalk Go.Maps Go.WideMaps
attribute [local go_sem] Oper.semAt_some

/-- A title with its owner, as Blames is handed it. -/
structure GoR where
  serial : Int
  shw : Int
  place : Int
  first : List UInt8
  ca : Option Addr
  cn : Nat
  cc : Nat
  person : List UInt8
  la : Option Addr
  ln : Nat
  lc : Nat
  total : Int
  ma : Option Addr
  mn : Nat
  mc : Nat
  gone : Int
  oa : Option Addr
  on : Nat
  oc : Nat
  ser : (Lit.int .i64 serial).wf = true

def goV (x : GoR) : Value := .agg #[.int .i64 x.serial, .int .i64 x.shw, .int .i64 x.place, .string (bs x.first), .slice x.ca x.cn x.cc, .string (bs x.person), .slice x.la x.ln x.lc, .int .i64 x.total, .slice x.ma x.mn x.mc, .int .i64 x.gone, .slice x.oa x.on x.oc]

def GoE : Enc GoR 11 := ⟨fun x => [.int .i64 x.serial, .int .i64 x.shw, .int .i64 x.place, .string (bs x.first), .slice x.ca x.cn x.cc, .string (bs x.person), .slice x.la x.ln x.lc, .int .i64 x.total, .slice x.ma x.mn x.mc, .int .i64 x.gone, .slice x.oa x.on x.oc], fun _ => rfl, fun x v hv => by
  simp only [List.mem_cons, List.not_mem_nil, or_false] at hv
  rcases hv with rfl | rfl | rfl | rfl | rfl | rfl | rfl | rfl | rfl | rfl | rfl <;> rfl, by decide⟩

theorem go_at {w : World} {ra : Option Addr} {n : Nat} {l : List GoR} (h : Recs GoE w ra n l) (i : Nat) (hi : i < n) {x : GoR} (hx : l[i]? = some x) : ∃ b o, ra = some ⟨b, o, none⟩ ∧ w.cell? ⟨b, o + i * 11, none⟩ = some (.int .i64 x.serial) ∧
    w.cell? ⟨b, o + i * 11 + 1, none⟩ = some (.int .i64 x.shw) ∧ w.cell? ⟨b, o + i * 11 + 2, none⟩ = some (.int .i64 x.place) ∧ w.cell? ⟨b, o + i * 11 + 3, none⟩ = some (.string (bs x.first)) ∧ w.cell? ⟨b, o + i * 11 + 4, none⟩ = some (.slice x.ca x.cn x.cc) ∧
    w.cell? ⟨b, o + i * 11 + 5, none⟩ = some (.string (bs x.person)) ∧ w.cell? ⟨b, o + i * 11 + 6, none⟩ = some (.slice x.la x.ln x.lc) ∧ w.cell? ⟨b, o + i * 11 + 7, none⟩ = some (.int .i64 x.total) ∧ w.cell? ⟨b, o + i * 11 + 8, none⟩ = some (.slice x.ma x.mn x.mc) ∧
    w.cell? ⟨b, o + i * 11 + 9, none⟩ = some (.int .i64 x.gone) ∧ w.cell? ⟨b, o + i * 11 + 10, none⟩ = some (.slice x.oa x.on x.oc) := by
  obtain ⟨hiE, rfl⟩ := List.getElem?_eq_some_iff.mp hx
  obtain ⟨b, o, e, c⟩ := h.2 i hi
  have c0 := c 0 (by omega)
  have c1 := c 1 (by omega)
  have c2 := c 2 (by omega)
  have c3 := c 3 (by omega)
  have c4 := c 4 (by omega)
  have c5 := c 5 (by omega)
  have c6 := c 6 (by omega)
  have c7 := c 7 (by omega)
  have c8 := c 8 (by omega)
  have c9 := c 9 (by omega)
  have c10 := c 10 (by omega)
  rw [rc_eq _ _ hiE] at c0 c1 c2 c3 c4 c5 c6 c7 c8 c9 c10
  exact ⟨b, o, e, c0, c1, c2, c3, c4, c5, c6, c7, c8, c9, c10⟩

/-- What a round of the caller keeps: all that lay there, but for the block M. -/
structure KpM (n0 M : Nat) (W W' : World) : Prop where
  size : W.heap.size ≤ W'.heap.size
  block : ∀ i, i < n0 → i ≠ M → W'.heap[i]? = W.heap[i]?

theorem KpM.trans {n0 M : Nat} {X Y Z : World} (h : KpM n0 M X Y) (k : KpM n0 M Y Z) : KpM n0 M X Z := ⟨Nat.le_trans h.size k.size, fun i hi hM => (k.block i hi hM).trans (h.block i hi hM)⟩

/-- The iterator's memory: its box, the titles. -/
def BackAt (W : World) (n0 M B : Nat) (ra : Option Addr) (n c : Nat) (l : List GoR) : Prop :=
  B < n0 ∧ B ≠ M ∧ W.heap[B]? = some (.cells #[.slice ra n c] 23 (0, 0)) ∧ Recs GoE W ra n l ∧ (∀ b o, ra = some ⟨b, o, none⟩ → 0 < n → b < n0 ∧ b ≠ M)

theorem BackAt.kp {W W' : World} {n0 M B n c : Nat} {ra : Option Addr} {l : List GoR} (h : BackAt W n0 M B ra n c l) (k : KpM n0 M W W') : BackAt W' n0 M B ra n c l := by
  obtain ⟨h1, h2, h3, h4, h5⟩ := h
  refine ⟨h1, h2, (k.block B h1 h2).trans h3, ⟨h4.1, fun i hi => ?_⟩, h5⟩
  obtain ⟨b, o, e, cc⟩ := h4.2 i hi
  obtain ⟨hb1, hb2⟩ := h5 b o e (by omega)
  refine ⟨b, o, e, fun j hj => ?_⟩
  have := cc j hj
  simp only [World.cell?, k.block b hb1 hb2] at this ⊢
  exact this

set_option maxRecDepth 100000 in
set_option maxHeartbeats 3200000 in
theorem back_in (y n0 M B n c : Nat) (ra : Option Addr) (l : List GoR) (J Jx : List (Nat × GoR) → World → Prop) (hn : n ≤ 1000) (m : Nat) (hm : 3 ≤ m)
    (hY : ∀ pre x W, J pre W → pre.length < n → YieldAt Fence.wide (m - 1) Try.prog y #[.int .i64 (x : Nat × GoR).1, goV x.2] W fun e W' =>
      (e = .returned (.bool true) ∧ J (pre ++ [x]) W' ∧ KpM n0 M W W') ∨ (e = .returned (.bool false) ∧ Jx (pre ++ [x]) W'))
    (hJ : ∀ (pre : List (Nat × GoR)) (W W' : World), J pre W → W.grownBy W' none → J pre W')
    (W : World) (hB : BackAt W n0 M B ra n c l) (h0 : J [] W) :
    CallsIn Fence.wide m Try.prog 53 #[.func (.yield y) #[] #[], .pointer (some ⟨B, 0, none⟩)] W fun e W' => (∃ v, e = .returned v) ∧
      ((∃ ys : List (Nat × GoR), ys.map (·.2) = l.reverse ∧ J ys W') ∨ (∃ pre, True ∧ Jx pre W')) := by
  refine callsIn_of_wp Try.func53 rfl trivial ?_ rfl
  simp only [Try.ntmps53, List.size_toArray, List.length_cons, List.length_nil, Nat.reduceAdd, Nat.reduceSub, Array.replicate_succ, Array.replicate_zero, List.push_toArray, List.append_toArray, List.nil_append, List.cons_append]
  have HY : Hid (∀ pre x W, J pre W → pre.length < n → YieldAt Fence.wide (m - 1) Try.prog y #[.int .i64 (x : Nat × GoR).1, goV x.2] W fun e W' =>
      (e = .returned (.bool true) ∧ J (pre ++ [x]) W' ∧ KpM n0 M W W') ∨ (e = .returned (.bool false) ∧ Jx (pre ++ [x]) W')) := hY
  have HJ := Lib.hid hJ
  have HBK := Lib.hid hB
  have HJ0 := Lib.hid h0
  have x0 : W.cell? ⟨B, 0, none⟩ = some (.slice ra n c) := by rw [cell_of_row _ _ _ _ _ _ hB.2.2.1]; rfl
  have hlen := hB.2.2.2.1.1
  clear hY hJ hB h0
  refine wpIn_wide.2 ?_
  go_wp2_with fail
  clear x0
  go_loopw [3] (fun v3 wr => ∃ (k : Nat) (pre : List (Nat × GoR)), v3 = .int .i64 ((k : Int) - 1) ∧ k ≤ n ∧ Hid (pre.map (·.2) = (l.drop k).reverse) ∧ Hid (BackAt wr n0 M B ra n c l) ∧ Hid (J pre wr)) (fun v3 _ => (intOf v3 + 1).toNat)
  case atStart => exact ⟨n, [], rfl, Nat.le_refl _, by show _ = _; rw [List.drop_of_length_le (by omega)]; rfl, HBK.out, HJ0.out⟩
  case round =>
    clear HBK HJ0
    obtain ⟨k, pre, rfl, hk, HP, HB, HJP⟩ := hrel
    by_cases hk0 : 0 < k
    · obtain ⟨i, hi⟩ : ∃ i, i + 1 = k := ⟨k - 1, by omega⟩
      have hki : (k : Int) - 1 = (i : Int) := by omega
      rw [hki]
      have hin : i < n := by omega
      have hil : i < l.length := by omega
      obtain ⟨x, hx⟩ : ∃ x, l[i]? = some x := ⟨_, List.getElem?_eq_getElem hil⟩
      have x0 : wr.cell? ⟨B, 0, none⟩ = some (.slice ra n c) := by rw [cell_of_row _ _ _ _ _ _ HB.out.2.2.1]; rfl
      obtain ⟨b, o, rfl, c0, c1, c2, c3, c4, c5, c6, c7, c8, c9, c10⟩ := go_at HB.out.2.2.2.1 i hin hx
      have HPL : Hid (pre.length < n) := by
        have := congrArg List.length HP.out
        rw [List.length_map, List.length_reverse, List.length_drop] at this
        show _ < _
        omega
      have HPN : Hid ((pre ++ [(i, x)]).map (·.2) = (l.drop i).reverse) := by
        show _ = _
        rw [List.map_append, HP.out, List.drop_eq_getElem_cons hil, List.reverse_cons, hi]
        have : l[i] = x := by rw [List.getElem?_eq_getElem hil] at hx; exact Option.some.inj hx
        rw [this]
        rfl
      clear hx hi hki HP hil
      go_upto_region 3 with fail
      refine (wpIn_wide (n := m)).1 ?_
      obtain ⟨fn, tmps, assign, body, hy, hR⟩ := HY.out pre (i, x) wr HJP.out HPL.out
      dsimp only [goV] at hy
      gi_wp2
      refine ⟨fun _ => by omega, hR.mono ?_⟩
      clear hy hR c0 c1 c2 c3 c4 c5 c6 c7 c8 c9 c10 x0
      rintro e W' (⟨rfl, hJ', hkp⟩ | ⟨rfl, hJx'⟩)
      · have HB' := Lib.hid (HB.out.kp hkp)
        have HJ' := Lib.hid hJ'
        clear hJ' hkp
        gi_wp2
        go_wp2_with fail
        go_roundw
        case rel => exact ⟨i, _, rfl, by omega, HPN, HB', HJ'⟩
        case measure => simp [intOf] <;> omega
      · have HJX := Lib.hid hJx'
        clear hJx'
        gi_wp2
        go_wp2_with fail
        refine bodyPost_ret (results_none rfl _ _ _) rfl ?_
        exact ⟨⟨_, rfl⟩, .inr ⟨_, trivial, HJX.out⟩⟩
    · have hk' : k = 0 := by omega
      subst hk'
      go_wp2_with fail
      go_end0
      exact ⟨⟨_, rfl⟩, .inl ⟨pre, by rw [HP.out]; rfl, HJP.out⟩⟩

theorem back_stops (n0 M B n c : Nat) (ra : Option Addr) (l : List GoR) (hn : n ≤ 1000) (m : Nat) (hm : 3 ≤ m) (w : World) (hw : n0 ≤ w.heap.size) (hB : BackAt w n0 M B ra n c l) :
    SeqStopsK Fence.wide m Try.prog 53 #[.pointer (some ⟨B, 0, none⟩)] (fun x : Nat × GoR => #[.int .i64 x.1, goV x.2]) (KpM n0 M) (fun xs => xs.map (·.2) = l.reverse) (fun _ => True) n w := fun y J Jx W hW hJ _ hY h0 =>
  back_in y n0 M B n c ra l J Jx hn m hm hY (fun pre W1 W2 h hg => hJ pre W1 W2 none h hg (fun r e => by cases e)) W (hB.kp ⟨hW.size, fun i hi _ => hW.block i (by omega)⟩) h0

set_option maxRecDepth 10000 in
theorem backward_any (ra : Option Addr) (n c : Nat) (w : World) : Calls Try.prog 33 #[.slice ra n c] w fun e w' => e = .returned (.func (.func 53) #[] #[.pointer (some ⟨w.heap.size, 0, none⟩)]) ∧ w' = w.alloc (.cells #[.slice ra n c] 23) := by
  go_enter Try.func33, Try.ntmps33
  go_wp2_with fail
  go_ret
  exact ⟨rfl, rfl⟩
end Go.Proofs.Ytpmoelkblngamaa
