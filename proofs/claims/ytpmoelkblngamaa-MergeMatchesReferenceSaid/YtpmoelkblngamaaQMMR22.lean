/- merge: foyerlaw38.honest: the walk. -/
import Derived.Test.YtpmoelkblngamaaQMMR00
import Derived.Test.YtpmoelkblngamaaQMMR21

set_option linter.unusedSimpArgs false
namespace Go.Proofs.Ytpmoelkblngamaa
open Go.RowKit Go.IntWalk Go.Maps Go.WideMaps

theorem make_ints (n : Nat) (hn : n ≤ 4000) : ∃ arr : Array Value, arr.size = n ∧ (∀ k, k < n → arr[k]? = some (.int .i64 0)) ∧
    ∀ w : World, (Instr.makeSlice 34 (.int .i64 (n : Int)) (.int .i64 (n : Int))).run Try.prog w = .ok (.slice (some ⟨w.heap.size, 0, none⟩) n n) (w.alloc (.cells arr 3)) := by
  refine ⟨madeCells #[.int .i64 0] n, size_madeCells _ _, fun k hk => ?_, fun w => ?_⟩
  · simp [madeCells, hk, Nat.mod_one]
  · exact run_make_row' 34 3 (.int .i64 0) 8 Try.underlying34 (by kernel_rfl) rfl .i64 .i64 n (by omega) (by omega) w

theorem IntRow.made {w : World} {arr : Array Value} {T : TypeId} {n g : Nat} (hg : g = w.heap.size) (hs : arr.size = n) (hz : ∀ k, k < n → arr[k]? = some (.int .i64 0)) : IntRow (w.alloc (.cells arr T)) g T (List.replicate n 0) := by
  subst hg
  refine ⟨arr, ?_, by simp [hs], fun k hk => ?_⟩
  · show (w.heap.push _)[w.heap.size]? = _
    simp
  · rw [List.length_replicate] at hk
    rw [hz k hk]
    simp [ix, List.getD_eq_getElem?_getD, hk]

/-- How a step lies in three cells. -/
def StE : Enc StepT 3 := ⟨fun x => [.int .u8 x.1, .int .u8 x.2.1, .int .u8 x.2.2], fun _ => rfl, fun x v hv => by
  simp only [List.mem_cons, List.not_mem_nil, or_false] at hv
  rcases hv with rfl | rfl | rfl <;> rfl, by decide⟩

theorem st_at {w : World} {ra : Option Addr} {n : Nat} {l : List StepT} (h : Recs StE w ra n l) (i : Nat) (hi : i < n) (hiE : i < l.length) : ∃ b o, ra = some ⟨b, o, none⟩ ∧ w.cell? ⟨b, o + i * 3, none⟩ = some (.int .u8 l[i].1) ∧
    w.cell? ⟨b, o + i * 3 + 1, none⟩ = some (.int .u8 l[i].2.1) ∧ w.cell? ⟨b, o + i * 3 + 2, none⟩ = some (.int .u8 l[i].2.2) := by
  obtain ⟨b, o, e, c⟩ := h.2 i hi
  have hr := fun j => rc_eq (E := StE) (xs := l) i j hiE
  refine ⟨b, o, e, ?_, ?_, ?_⟩
  · have := c 0 (by decide); rw [hr 0] at this; exact this
  · have := c 1 (by decide); rw [hr 1] at this; exact this
  · have := c 2 (by decide); rw [hr 2] at this; exact this

theorem hon_next {l : List StepT} {i : Nat} (h : i < l.length) : honS (l.take (i + 1)) = honStep (honS (l.take i)) l[i] := by
  unfold honS
  rw [List.take_succ_eq_append_getElem h, List.foldl_append]
  rfl

/-- The state of honest gates in memory. -/
structure HonAt (W wr : World) (g4 g5 : Nat) (v3 : Value) (H : Hon) : Prop where
  below : Below W.heap.size W wr
  row : wr.ownsRow W.heap.size 39 6 v3 H.out.length (flat ScnE H.out)
  le4 : W.heap.size ≤ g4
  le5 : W.heap.size ≤ g5
  nums : ∃ D, IntRow wr g4 3 D ∧ D.length = 5 ∧ ∀ g, g < 5 → ix D g = (H.num g : Nat)
  ins : ∃ D, BoolRow wr g5 4 D ∧ D.length = 256 ∧ ∀ k, k < 256 → bx D k = H.ins k

theorem own_ne {w : World} {B k n r : Nat} {T U : TypeId} {v : Value} {xs : List Value} {arr : Array Value} {x : Nat × Nat} (h : w.ownsRow B T k v n xs) (hg : w.heap[r]? = some (.cells arr U x)) (hT : T ≠ U) (hr : v.ownBlock = some r) : False := by
  rcases h.2 with ⟨rfl, _⟩ | ⟨g, cap, cur, rfl, _, e, _⟩
  · cases hr
  · cases hr
    exact type_ne e hg hT rfl
theorem row_put {w : World} {B k n g : Nat} {T U : TypeId} {v : Value} {xs : List Value} {arr : Array Value} {x : Nat × Nat} (h : w.ownsRow B T k v n xs) (hg : w.heap[g]? = some (.cells arr U x)) (hT : T ≠ U) (o : Nat) (u : Value) : (w.setCell ⟨g, o, none⟩ u).ownsRow B T k v n xs :=
  row_of_heap h fun r hr => Below.heap_setCell _ _ _ _ (by
    show r ≠ g
    intro e
    subst e
    exact own_ne h hg hT hr)
theorem HonAt.ne45 {W wr : World} {g4 g5 : Nat} {v3 : Value} {H : Hon} (h : HonAt W wr g4 g5 v3 H) : g4 ≠ g5 := by
  obtain ⟨_, ⟨_, e4, _⟩, _⟩ := h.nums
  obtain ⟨_, ⟨_, e5, _⟩, _⟩ := h.ins
  exact type_ne e4 e5 (by decide)
theorem HonAt.down {W wr w' : World} {g4 g5 : Nat} {v3 : Value} {H : Hon} (h : HonAt W wr g4 g5 v3 H) (hb : Below wr.heap.size wr w') : HonAt W w' g4 g5 v3 H :=
  ⟨h.below.trans (hb.mono h.below.size), row_of_heap h.row fun r hr => hb.block r (h.row.lt r hr).2, h.le4, h.le5, let ⟨D, a, b⟩ := h.nums; ⟨D, a.below hb, b⟩, let ⟨D, a, b⟩ := h.ins; ⟨D, a.of_heap (hb.block _ a.lt), b⟩⟩
theorem HonAt.put4 {W wr : World} {g4 g5 : Nat} {v3 : Value} {H : Hon} (h : HonAt W wr g4 g5 v3 H) (G : Nat) (hG : G < 5) : HonAt W (wr.setCell ⟨g4, G, none⟩ (.int .i64 ((H.num G : Int) + 1))) g4 g5 v3 { H with num := fun g => if g = G then H.num g + 1 else H.num g } := by
  have hne := h.ne45
  obtain ⟨D, hr, hl, hf⟩ := h.nums
  obtain ⟨D5, hr5, hl5, hf5⟩ := h.ins
  refine ⟨h.below.grown (grown_setCell wr g4 G _) h.below.size (fun b e => by cases e; exact h.le4), ?_, h.le4, h.le5, ⟨_, hr.set G (by omega) _, by rw [List.length_set]; exact hl, fun g hg => ?_⟩, ⟨D5, hr5.of_heap (Below.heap_setCell _ _ _ _ (fun e => hne e.symm)), hl5, hf5⟩⟩
  · obtain ⟨arr, e, _⟩ := hr
    exact row_put h.row e (by decide) _ _
  · rw [ix_set _ _ _ _ (by omega)]
    show _ = ((if g = G then H.num g + 1 else H.num g : Nat) : Int)
    by_cases e : G = g
    · subst e
      rw [if_pos rfl, if_pos rfl]
      omega
    · rw [if_neg e, if_neg (fun h => e h.symm)]
      exact hf g hg
theorem HonAt.put5 {W wr : World} {g4 g5 : Nat} {v3 : Value} {H : Hon} (h : HonAt W wr g4 g5 v3 H) (K : Nat) (hK : K < 256) : HonAt W (wr.setCell ⟨g5, K, none⟩ (.bool (!H.ins K))) g4 g5 v3 { H with ins := fun k => if k = K then !H.ins k else H.ins k } := by
  have hne := h.ne45
  obtain ⟨D, hr, hl, hf⟩ := h.nums
  obtain ⟨D5, hr5, hl5, hf5⟩ := h.ins
  refine ⟨h.below.grown (grown_setCell wr g5 K _) h.below.size (fun b e => by cases e; exact h.le5), ?_, h.le4, h.le5, ⟨D, ?_, hl, hf⟩, ⟨_, hr5.set K (by omega) _, by rw [List.length_set]; exact hl5, fun k hk => ?_⟩⟩
  · obtain ⟨arr, e, _⟩ := hr5
    exact row_put h.row e (by decide) _ _
  · obtain ⟨arr, e, r⟩ := hr
    exact ⟨arr, (Below.heap_setCell _ _ _ _ hne).trans e, r⟩
  · rw [bx_set _ _ _ _ (by omega)]
    show _ = (if k = K then !H.ins k else H.ins k)
    by_cases e : K = k
    · subst e
      rw [if_pos rfl, if_pos rfl]
    · rw [if_neg e, if_neg (fun h => e h.symm)]
      exact hf5 k hk
theorem HonAt.app {W wr w' : World} {g4 g5 : Nat} {v3 v' : Value} {H : Hon} (h : HonAt W wr g4 g5 v3 H) (x : Scn) (now : Int) (hg : wr.grownBy w' v3.ownBlock) (ho : w'.ownsRow W.heap.size 39 6 v' (H.out.length + 1) (flat ScnE (H.out ++ [x]))) : HonAt W w' g4 g5 v' ⟨H.out ++ [x], H.num, H.ins, now⟩ := by
  obtain ⟨D, hr, hl, hf⟩ := h.nums
  obtain ⟨D5, hr5, hl5, hf5⟩ := h.ins
  refine ⟨h.below.grown hg h.below.size (fun b e => (h.row.lt b e).1), (by rw [List.length_append]; exact ho), h.le4, h.le5, ⟨D, ?_, hl, hf⟩, ⟨D5, ?_, hl5, hf5⟩⟩
  · obtain ⟨arr, e, r⟩ := hr
    exact ⟨arr, (hg.block _ (lt_of_block e) (fun e' => own_ne h.row e (by decide) e'.symm)).trans e, r⟩
  · obtain ⟨arr, e, r⟩ := hr5
    exact ⟨arr, (hg.block _ (lt_of_block e) (fun e' => own_ne h.row e (by decide) e'.symm)).trans e, r⟩
theorem HonAt.cell4 {W wr : World} {g4 g5 : Nat} {v3 : Value} {H : Hon} (h : HonAt W wr g4 g5 v3 H) (G : Nat) (hG : G < 5) : wr.cell? ⟨g4, G, none⟩ = some (.int .i64 (H.num G : Nat)) ∧ wr.frozen? ⟨g4, G, none⟩ = false := by
  obtain ⟨D, hr, hl, hf⟩ := h.nums
  exact ⟨by rw [hr.cell G (by omega), hf G hG], hr.free G⟩
theorem HonAt.cell5 {W wr : World} {g4 g5 : Nat} {v3 : Value} {H : Hon} (h : HonAt W wr g4 g5 v3 H) (K : Nat) (hK : K < 256) : wr.cell? ⟨g5, K, none⟩ = some (.bool (H.ins K)) ∧ wr.frozen? ⟨g5, K, none⟩ = false := by
  obtain ⟨D, hr, hl, hf⟩ := h.ins
  exact ⟨by rw [hr.cell K (by omega), hf K hK], hr.free K⟩

theorem rec_new1 {α : Type} {k : Nat} {E : Enc α k} {w : World} {g : Nat} {T : TypeId} (l : List α) (h : w.heap[g]? = some (.cells (flat E l).toArray T (0, 0))) : RecRow E w g T l :=
  ⟨_, h, by rw [List.size_toArray, flat_len]; exact Nat.le_refl _, fun i j hi hj => by rw [List.getElem?_toArray]; exact flat_get l i j hi hj⟩
theorem scs_row1 {w : World} {g : Nat} {l : List Scn} (h : RecRow ScnE w g 39 l) : Scs w (.slice (some ⟨g, 0, none⟩) l.length l.length) l := ⟨_, _, rfl, h.recs, fun e => by cases e⟩
theorem hon_sz (l : List StepT) : (honS l).out.length = l.length := by
  induction l using snoc_ind with
  | h0 => rfl
  | h1 l x ih =>
    unfold honS at *
    rw [List.foldl_append]
    show (_ ++ [_]).length = _
    rw [List.length_append, List.length_append]
    have ih : (List.foldl honStep hon0 l).out.length = l.length := ih
    rw [ih]
    rfl
theorem hon_nm (l : List StepT) (g : Nat) : (honS l).num g ≤ l.length := by
  induction l using snoc_ind with
  | h0 => exact Nat.le_refl _
  | h1 l x ih =>
    unfold honS at *
    rw [List.foldl_append, List.length_append, List.length_singleton]
    show (if g = 1 + x.1 % 4 then (List.foldl honStep hon0 l).num g + 1 else (List.foldl honStep hon0 l).num g) ≤ _
    split <;> omega
theorem hon_now (l : List StepT) (h : ∀ s ∈ l, s.2.2 ≤ 255) : 1 ≤ (honS l).now ∧ (honS l).now ≤ 1 + 256 * (l.length : Int) := by
  induction l using snoc_ind with
  | h0 => exact ⟨by decide, by decide⟩
  | h1 l x ih =>
    have ih := ih fun s hs => h s (List.mem_append_left _ hs)
    have hx := h x (List.mem_append_right _ (List.mem_singleton.mpr rfl))
    unfold honS at *
    rw [List.foldl_append]
    show 1 ≤ (List.foldl honStep hon0 l).now + (1 + (x.2.2 : Int)) ∧ (List.foldl honStep hon0 l).now + (1 + (x.2.2 : Int)) ≤ _
    rw [List.length_append, List.length_singleton]
    omega
set_option maxRecDepth 100000 in
set_option maxHeartbeats 3200000 in
theorem honest_any (w : World) (la : Option Addr) (n c : Nat) (l : List StepT) (h : Recs StE w la n l) (hn : n ≤ 60) (hb : ∀ s ∈ l, s.1 ≤ 255 ∧ s.2.1 ≤ 255 ∧ s.2.2 ≤ 255) :
    Calls Try.prog 24 #[.slice la n c] w fun e w' => ∃ v, e = .returned v ∧ w'.ownsRow w.heap.size 39 6 v l.length (flat ScnE (honS l).out) ∧ Below w.heap.size w w' := by
  have hlen := h.1
  have HL := Lib.hid h
  have HBD := Lib.hid hb
  clear h hb
  obtain ⟨arr, hs, hz, hmk⟩ := make_ints 5 (by decide)
  obtain ⟨brr, hs2, hz2, hmk2⟩ := make_bools 256 (by decide)
  have hmk : ∀ w : World, (Instr.makeSlice 34 (.int .i64 5) (.int .i64 5)).run Try.prog w = .ok (.slice (some ⟨w.heap.size, 0, none⟩) 5 5) (w.alloc (.cells arr 3)) := hmk
  have hmk2 : ∀ w : World, (Instr.makeSlice 88 (.int .i64 256) (.int .i64 256)).run Try.prog w = .ok (.slice (some ⟨w.heap.size, 0, none⟩) 256 256) (w.alloc (.cells brr 4)) := hmk2
  have HON : Hid (HonAt w ((w.alloc (.cells arr 3)).alloc (.cells brr 4)) w.heap.size (w.heap.size + 1) (.slice none 0 0) hon0) := by
    have hb4 := Joins.below_alloc1 (w.alloc (.cells arr 3)) (.cells brr 4)
    refine ⟨Joins.below_alloc2 w _ _, ⟨rfl, Or.inl ⟨rfl, rfl⟩⟩, Nat.le_refl _, Nat.le_succ _, ⟨_, (IntRow.made (T := 3) rfl hs hz).below hb4, by simp, fun g hg => ?_⟩, ⟨_, BoolRow.made (T := 4) (by simp) hs2 hz2, by simp, fun k hk => ?_⟩⟩
    · unfold ix; rw [List.getD_eq_getElem?_getD, List.getElem?_replicate, if_pos hg]; rfl
    · unfold bx; rw [List.getD_eq_getElem?_getD, List.getElem?_replicate, if_pos hk]; rfl
  clear hs hz hs2 hz2
  go_enter Try.func24, Try.ntmps24
  go_wp2_with fail
  generalize (w.alloc (.cells arr 3)).alloc (.cells brr 4) = w1 at *
  generalize w.heap.size + 1 = g5 at *
  go_loopw [3, 6, 7] (fun v3 v6 v7 wr => ∃ i : Nat, v7 = .int .i64 i ∧ i ≤ n ∧ v6 = .int .i64 (honS (l.take i)).now ∧ Hid (HonAt w wr w.heap.size g5 v3 (honS (l.take i)))) (fun _ _ v7 _ => n - (intOf v7).toNat)
  case atStart => exact ⟨0, rfl, Nat.zero_le _, rfl, HON.out⟩
  case round =>
    clear HON
    obtain ⟨i, rfl, hi, rfl, HON⟩ := hrel
    by_cases hlt : i < n
    · have h1 : i < l.length := by omega
      obtain ⟨b1, o1, rfl, c0, c1, c2⟩ := st_at (HL.out.below HON.out.below) i hlt h1
      have HNX := Lib.hid (hon_next h1)
      obtain ⟨hx0, hx1, hx2⟩ := HBD.out _ (List.getElem_mem h1)
      have HLN : Hid ((honS (l.take i)).out.length = i) := by show _ = _; rw [hon_sz, List.length_take]; omega
      obtain ⟨hw1, hw2⟩ := hon_now (l.take i) fun s hs => (HBD.out s (List.mem_of_mem_take hs)).2.2
      rw [List.length_take] at hw2
      have hw3 : (honS (l.take i)).now ≤ 20000 := by omega
      have hnm := fun g => hon_nm (l.take i) g
      obtain ⟨x, hx⟩ : ∃ x, x = l[i] := ⟨_, rfl⟩
      rw [← hx] at c0 c1 c2 HNX hx0 hx1 hx2
      have HLX := Lib.hid hx
      clear hx
      obtain ⟨x0, x1, x2⟩ := x
      dsimp only at c0 c1 c2 hx0 hx1 hx2
      generalize honS (l.take i) = H at *
      clear hw2
      have hG : (1 : Int) + (x0 : Int) % 4 = ((1 + x0 % 4 : Nat) : Int) := by omega
      have hG5 : 1 + x0 % 4 < 5 := by omega
      obtain ⟨hgc, hgf⟩ := HON.out.cell4 (1 + x0 % 4) hG5
      have hnmG := hnm (1 + x0 % 4)
      rw [List.length_take] at hnmG
      have HON1 := Lib.hid (HON.out.put4 (1 + x0 % 4) hG5)
      obtain ⟨G, hGG⟩ : ∃ G, G = 1 + x0 % 4 := ⟨_, rfl⟩
      have HGG := Lib.hid hGG
      rw [← hGG] at hG hG5 hgc hgf hnmG HON1
      clear hGG hnm
      go_upto_region 10 with fail
      obtain ⟨_, _, e', c0, c1, c2⟩ := st_at (HL.out.below HON1.out.below) i hlt h1
      cases e'
      rw [← HLX.out] at c0 c1 c2
      dsimp only at c0 c1 c2
      obtain ⟨ic, icf⟩ := HON1.out.cell5 x1 (by omega)
      dsimp only at ic
      clear hgc hgf
      generalize wr.setCell ⟨w.heap.size, G, none⟩ (.int .i64 ((H.num G : Int) + 1)) = w2 at *
      obtain ⟨kd, hkd⟩ : ∃ kd : Int, kd = if H.ins x1 then 2 else 1 := ⟨_, rfl⟩
      obtain ⟨ib, hib⟩ : ∃ ib, ib = H.ins x1 := ⟨_, rfl⟩
      rw [← hib] at ic hkd
      have HIB := Lib.hid hib
      have HKD := Lib.hid hkd
      clear hib hkd
      go_upto_if 48 with fail
      go_cut [9] from 12 to 81 (fun v9 wx => v9 = .int .i64 kd ∧ w2 = wx)
      case rest =>
        obtain ⟨rfl, rfl⟩ := hcut
        go_upto_region 14 with fail
        go_region
        go_upto_region 15 with fail
        have h5 := (HON1.out.put5 x1 (by omega)).down ((Below.refl _ _).drew)
        dsimp only at h5
        rw [← HIB.out] at h5
        have HON2 := Lib.hid h5
        clear h5
        generalize (w2.setCell ⟨g5, x1, none⟩ (.bool (!ib))).drew = w3 at *
        have n4 := (HON2.out.cell4 G hG5).1
        dsimp only at n4
        rw [if_pos rfl] at n4
        have n4 : w3.cell? ⟨w.heap.size, G, none⟩ = some (.int .i64 ((H.num G : Int) + 1)) := n4
        obtain ⟨_, _, e', c0, c1, c2⟩ := st_at (HL.out.below HON2.out.below) i hlt h1
        cases e'
        rw [← HLX.out] at c1
        dsimp only at c1
        clear c0 c2
        have HKK : Hid (∀ w' : World, Below w3.heap.size w3 w' → w'.cell? ⟨w.heap.size, G, none⟩ = some (.int .i64 ((H.num G : Int) + 1)) ∧ w'.cell? ⟨b1, o1 + i * 3 + 1, none⟩ = some (.int .u8 x1)) := fun w' hb => ⟨Below.cell_of hb n4, Below.cell_of hb c1⟩
        clear n4 c1
        have hG6 : (G : Int) < 5 := by omega
        have hwr : IntKind.i64.wrap (x1 : Int) = x1 := i64_in _ (by omega)
        refine wp_region_held_drew (S := fun w' => w'.cell? ⟨w.heap.size, G, none⟩ = some (.int .i64 ((H.num G : Int) + 1)) ∧ w'.cell? ⟨b1, o1 + i * 3 + 1, none⟩ = some (.int .u8 x1)) (by kernel_rfl) (HKK.out w3 (Below.refl _ _)) (fun hHeld => ?_)
        refine take_at (i := 0) (v := ?_) 65 rfl rfl (by kernel_rfl) (by kernel_rfl) (by kernel_rfl) (fun _ _ _ h => h) (Or.inl ⟨by rfl, ?_⟩) (by assumption) ?_
        rotate_left
        · intro w hSw; go_simp <;> with_reducible rfl
        try simp only [Act.put, List.setIfInBounds_toArray, List.set_cons_zero, List.set_cons_succ]
        refine take_at (i := 1) (v := ?_) 66 rfl rfl (by kernel_rfl) (by kernel_rfl) (by kernel_rfl) (fun _ _ _ h => h) (Or.inl ⟨by rfl, ?_⟩) (by assumption) ?_
        rotate_left
        · intro w hSw; go_simp <;> with_reducible rfl
        try simp only [Act.put, List.setIfInBounds_toArray, List.set_cons_zero, List.set_cons_succ]
        refine take_at (i := 2) (v := ?_) 67 rfl rfl (by kernel_rfl) (by kernel_rfl) (by kernel_rfl) (fun _ _ _ h => h) (Or.inl ⟨by rfl, ?_⟩) (by assumption) ?_
        rotate_left
        · intro w hSw; go_simp <;> with_reducible rfl
        try simp only [Act.put, List.setIfInBounds_toArray, List.set_cons_zero, List.set_cons_succ]
        refine take_at (i := 3) (v := ?_) 68 rfl rfl (by kernel_rfl) (by kernel_rfl) (by kernel_rfl) (fun _ _ _ h => h) (Or.inl ⟨by rfl, ?_⟩) (by assumption) ?_
        rotate_left
        · intro w hSw; go_simp <;> with_reducible rfl
        try simp only [Act.put, List.setIfInBounds_toArray, List.set_cons_zero, List.set_cons_succ]
        refine take_at (i := 4) (v := ?_) 69 rfl rfl (by kernel_rfl) (by kernel_rfl) (by kernel_rfl) (fun _ _ _ h => h) (Or.inl ⟨by rfl, ?_⟩) (by assumption) ?_
        rotate_left
        · intro w hSw; go_simp <;> with_reducible rfl
        try simp only [Act.put, List.setIfInBounds_toArray, List.set_cons_zero, List.set_cons_succ]
        refine take_at (i := 5) (v := ?_) 70 rfl rfl (by kernel_rfl) (by kernel_rfl) (by kernel_rfl) (fun _ _ _ h => h) (Or.inl ⟨by rfl, ?_⟩) (by assumption) ?_
        rotate_left
        · intro w hSw; go_simp <;> with_reducible rfl
        try simp only [Act.put, List.setIfInBounds_toArray, List.set_cons_zero, List.set_cons_succ]
        refine take_at (i := 6) (v := ?_) 71 rfl rfl (by kernel_rfl) (by kernel_rfl) (by kernel_rfl) (fun _ _ _ h => h) (Or.inl ⟨by rfl, ?_⟩) (by assumption) ?_
        rotate_left
        · intro w hSw; go_simp <;> with_reducible rfl
        try simp only [Act.put, List.setIfInBounds_toArray, List.set_cons_zero, List.set_cons_succ]
        refine take_at (i := 7) (v := ?_) 72 rfl rfl (by kernel_rfl) (by kernel_rfl) (by kernel_rfl) (fun _ _ _ h => h) (Or.inl ⟨by rfl, ?_⟩) (by assumption) ?_
        rotate_left
        · intro w hSw; go_simp <;> with_reducible rfl
        try simp only [Act.put, List.setIfInBounds_toArray, List.set_cons_zero, List.set_cons_succ]
        refine take_at (i := 8) (v := ?_) 73 rfl rfl (by kernel_rfl) (by kernel_rfl) (by kernel_rfl) (fun _ _ _ h => h) (Or.inl ⟨by rfl, ?_⟩) (by assumption) ?_
        rotate_left
        · intro w hSw; go_simp <;> with_reducible rfl
        try simp only [Act.put, List.setIfInBounds_toArray, List.set_cons_zero, List.set_cons_succ]
        refine take_at (i := 9) (v := ?_) 74 rfl rfl (by kernel_rfl) (by kernel_rfl) (by kernel_rfl) (fun _ _ _ h => h) (Or.inl ⟨by rfl, ?_⟩) (by assumption) ?_
        rotate_left
        · intro w hSw; go_simp <;> with_reducible rfl
        try simp only [Act.put, List.setIfInBounds_toArray, List.set_cons_zero, List.set_cons_succ]
        refine take_at (i := 10) (v := ?_) 75 rfl rfl (by kernel_rfl) (by kernel_rfl) (by kernel_rfl) (fun _ _ _ h => h) (Or.inl ⟨by rfl, ?_⟩) (by assumption) ?_
        rotate_left
        · intro w hSw; go_simp <;> with_reducible rfl
        try simp only [Act.put, List.setIfInBounds_toArray, List.set_cons_zero, List.set_cons_succ]
        refine take_at (i := 11) (v := ?_) 76 rfl rfl (by kernel_rfl) (by kernel_rfl) (by kernel_rfl) (fun _ _ _ h => h) (Or.inl ⟨by rfl, ?_⟩) (by assumption) ?_
        rotate_left
        · intro w hSw; go_simp <;> with_reducible rfl
        try simp only [Act.put, List.setIfInBounds_toArray, List.set_cons_zero, List.set_cons_succ]
        refine take_at (i := 12) (v := ?_) 77 rfl rfl (by kernel_rfl) (by kernel_rfl) (by kernel_rfl) (fun _ _ _ h => h) (Or.inl ⟨by rfl, ?_⟩) (by assumption) ?_
        rotate_left
        · intro w hSw; go_simp <;> with_reducible rfl
        try simp only [Act.put, List.setIfInBounds_toArray, List.set_cons_zero, List.set_cons_succ]
        refine take_at (i := 13) (v := ?_) 78 rfl rfl (by kernel_rfl) (by kernel_rfl) (by kernel_rfl) (fun _ _ _ h => h) (Or.inl ⟨by rfl, ?_⟩) (by assumption) ?_
        rotate_left
        · intro w hSw; go_simp <;> with_reducible rfl
        try simp only [Act.put, List.setIfInBounds_toArray, List.set_cons_zero, List.set_cons_succ]
        refine wpAnyH_ready (rs := [14]) (by kernel_rfl) (by simp) ?_
        refine AllReadyH.cons rfl (fun K' hK => ?_) AllReadyH.nil
        go_simp
        refine (scan_any G ((H.num G : Int) + 1) (H.now + (1 + x2)) x1 kd w3.drew).mono ?_
        rintro e w4 ⟨rfl, hb4⟩
        have hb4 := (Below.refl _ w3).drew.trans hb4
        go_simp
        refine hK.out _ _ (HKK.out _ hb4) (fun hHeld => ?_)
        clear hK K'
        try simp only [Act.put, List.setIfInBounds_toArray, List.set_cons_zero, List.set_cons_succ]
        have hA := Joins.below_alloc1 w4 (.cells #[.int .i64 G, .int .i64 ((H.num G : Int) + 1), .int .i64 (H.now + (1 + x2)), .int .i64 x1, .int .i64 kd, .string (bs [])] 39)
        have hr5 : RecRow ScnE (w4.alloc (.cells #[.int .i64 G, .int .i64 ((H.num G : Int) + 1), .int .i64 (H.now + (1 + x2)), .int .i64 x1, .int .i64 kd, .string (bs [])] 39)) w4.heap.size 39 [⟨G, (H.num G : Int) + 1, H.now + (1 + x2), x1, kd, []⟩] := rec_new1 _ (World.alloc_heap_new w4 _)
        have hb5 := hb4.trans (hA.mono hb4.size)
        have h5 := HON2.out.down hb5
        clear hA
        refine wpAnyH_ready (rs := [15]) (by kernel_rfl) (by simp) ?_
        refine AllReadyH.cons rfl (fun K' hK => ?_) AllReadyH.nil
        go_simp
        go_simp
        refine hK.out _ _ (HKK.out _ hb5) (fun hHeld => ?_)
        clear hK K'
        try simp only [Act.put, List.setIfInBounds_toArray, List.set_cons_zero, List.set_cons_succ]
        generalize w4.alloc (.cells #[.int .i64 G, .int .i64 ((H.num G : Int) + 1), .int .i64 (H.now + (1 + x2)), .int .i64 x1, .int .i64 kd, .string (bs [])] 39) = w5 at *
        obtain ⟨v6, w6, hrun, ho6, hg6, _⟩ := run_append_scs 22 h5.row (scs_row1 hr5) (by have := HLN.out; show H.out.length + 1 ≤ 1000000; omega) h5.below.size
        have HAP := Lib.hid (h5.app _ (H.now + (1 + x2)) hg6 ho6)
        obtain ⟨_, _, e', _, c1, _⟩ := st_at (HL.out.below HAP.out.below) i hlt h1
        cases e'
        rw [← HLX.out] at c1
        dsimp only at c1
        have n4 := (HAP.out.cell4 G hG5).1
        dsimp only at n4
        rw [if_pos rfl] at n4
        have HKX : w6.cell? ⟨w.heap.size, G, none⟩ = some (.int .i64 ((H.num G : Int) + 1)) ∧ w6.cell? ⟨b1, o1 + i * 3 + 1, none⟩ = some (.int .u8 x1) := ⟨n4, c1⟩
        clear n4 c1
        refine wpAnyH_ready (rs := [16]) (by kernel_rfl) (by simp) ?_
        refine AllReadyH.cons rfl (fun K' hK => ?_) AllReadyH.nil
        refine step_append_w (by rfl) (.tmp 65) (.tmp 80) 22 rfl 22 rfl hrun rfl rfl ?_
        refine hK.out _ _ HKX (fun hHeld => ?_)
        clear hK K'
        try simp only [Act.put, List.setIfInBounds_toArray, List.set_cons_zero, List.set_cons_succ]
        refine take_at (i := 17) (v := ?_) 3 rfl rfl (by kernel_rfl) (by kernel_rfl) (by kernel_rfl) (fun _ _ _ h => h) (Or.inl ⟨by rfl, ?_⟩) (by assumption) ?_
        rotate_left
        · intro w hSw; go_simp <;> with_reducible rfl
        try simp only [Act.put, List.setIfInBounds_toArray, List.set_cons_zero, List.set_cons_succ]
        refine wpAnyH_done (by kernel_rfl) ?_ _
        clear hHeld HKK HKX hrun
        have HF : Hid (honStep H (x0, x1, x2) = ⟨H.out ++ [⟨G, (H.num G : Int) + 1, H.now + (1 + x2), x1, kd, []⟩], fun g => if g = G then H.num g + 1 else H.num g, fun k => if k = x1 then !H.ins k else H.ins k, H.now + (1 + x2)⟩) := by
          show _ = _
          rw [HKD.out, HIB.out, HGG.out]
          rfl
        rw [← HF.out, ← HNX.out] at HAP
        have HNW : Hid (H.now + (1 + (x2 : Int)) = (honS (l.take (i + 1))).now) := by
          show _ = _
          rw [HNX.out, HF.out]
        go_wp2_with fail
        go_roundw
        case rel => exact ⟨i + 1, by go_num, hlt, by rw [HNW.out], HAP.out⟩
        case measure => simp [intOf]; omega
      cases ib
      · have hk1 : kd = 1 := HKD.out
        clear HKD
        subst hk1
        go_wp2_with fail
        go_meet
        case rel => exact ⟨rfl, rfl⟩
      · have hk1 : kd = 2 := HKD.out
        clear HKD
        subst hk1
        go_wp2_with fail
        go_meet
        case rel => exact ⟨rfl, rfl⟩
    · have hi' : i = n := by omega
      subst hi'
      rw [List.take_of_length_le (by omega)] at HON
      go_wp2_with fail
      go_ret
      exact ⟨_, rfl, by have := HON.out.row; rw [hon_sz] at this; exact this, HON.out.below⟩
end Go.Proofs.Ytpmoelkblngamaa
