/- pack: what the closure value works on; its loop, plain; pack.values$1: the closure that tells what the groups from one on can bring. -/
import Derived.Test.YthabgljdndbphaaGreatDoorQPKM21

set_option linter.unusedVariables false
set_option linter.unusedSimpArgs false
namespace Go.Proofs.YthabgljdndbphaaGreatDoor
open Go.RowKit Go.IntWalk Go.Maps Go.WideMaps
set_option linter.unusedSimpArgs false
set_option linter.unusedVariables false

/-! ### w' is w but for one map and what is new -/
structure MUpd (M : Nat) (w w' : World) : Prop where
 grown : w.grownBy w' (some M)
 map : ∃ es ck, w.heap[M]? = some (.map es ck)
 map' : ∃ es ck, w'.heap[M]? = some (.map es ck)
section
variable {M : Nat} {w w' w'' : World}
theorem MUpd.refl (h : ∃ es ck, w.heap[M]? = some (.map es ck)) : MUpd M w w := ⟨grown_refl w _, h, h⟩
theorem MUpd.trans (h : MUpd M w w') (k : MUpd M w' w'') : MUpd M w w'' := ⟨grown_trans h.grown k.grown, h.map, k.map'⟩
theorem MUpd.of_below (h : Below w.heap.size w w') (hm : ∃ es ck, w.heap[M]? = some (.map es ck)) : MUpd M w w' := by
 refine ⟨grown_below h _, hm, ?_⟩
 obtain ⟨es, ck, e⟩ := hm
 exact ⟨es, ck, (h.block M (lt_of_block e)).trans e⟩
theorem MUpd.down (h : MUpd M w w') (k : Below w'.heap.size w' w'') : MUpd M w w'' := h.trans (MUpd.of_below k h.map')
theorem MUpd.block (h : MUpd M w w') {b : Nat} {arr : Array Value} {T : TypeId} {x : Nat × Nat} (hb : w.heap[b]? = some (.cells arr T x)) : w'.heap[b]? = some (.cells arr T x) := by
 obtain ⟨es, ck, e⟩ := h.map
 refine (h.grown.block b (lt_of_block hb) (fun e2 => ?_)).trans hb
 cases e2
 rw [hb] at e
 cases e
theorem MUpd.other (h : MUpd M w w') {b : Nat} (hb : b < w.heap.size) (hne : b ≠ M) : w'.heap[b]? = w.heap[b]? :=
 h.grown.block b hb (fun e => hne (by cases e; rfl))
theorem MUpd.cell (h : MUpd M w w') {p : Addr} {v : Value} (hc : w.cell? p = some v) : w'.cell? p = some v := by
 have hb : ∃ arr T x, w.heap[p.block]? = some (.cells arr T x) := by
  unfold World.cell? at hc
  split at hc
  ·
   exact ⟨_, _, _, by assumption⟩
  ·
   cases hc
 obtain ⟨arr, T, x, hb⟩ := hb
 have h2 := h.block hb
 rw [World.cell?_of_block (w := w) (w' := w') (by rw [h2, hb])]
 exact hc
theorem MUpd.recs (h : MUpd M w w') {α : Type} {k n : Nat} {E : Enc α k} {ra : Option Addr} {xs : List α} (hr : Recs E w ra n xs) : Recs E w' ra n xs :=
 ⟨hr.1, fun i hi => let ⟨b, o, e, c⟩ := hr.2 i hi; ⟨b, o, e, fun j hj => h.cell (c j hj)⟩⟩
theorem MUpd.pairs (h : MUpd M w w') {ga : Option Addr} {m : Nat} {G : List (Int × Int)} (hp : Pairs w ga m G) : Pairs w' ga m G :=
 ⟨hp.1, fun k hk => let ⟨b, o, e, c0, c1⟩ := hp.2 k hk; ⟨b, o, e, h.cell c0, h.cell c1⟩⟩
theorem MUpd.ints (h : MUpd M w w') {ga : Option Addr} {m : Nat} {R : List Int} (hp : Ints w ga m R) : Ints w' ga m R :=
 ⟨hp.1, fun k hk => let ⟨b, o, e, c0⟩ := hp.2 k hk; ⟨b, o, e, h.cell c0⟩⟩
theorem MUpd.kit (h : MUpd M w w') (hk : PKit w) : PKit w' := by
 unfold PKit Lib.TabIs World.var? at *
 have hg : Tryz.prog.globalNamed "internal/strconv.uint64pow10" = some 0 := by kernel_rfl
 rw [hg] at hk ⊢
 simp only [Option.bind_some] at hk ⊢
 split at hk
 ·
  rename_i hb
  rw [h.block hb]
  exact hk
 ·
  cases hk
end

/-- Where the closure's variables lie. -/
structure VA where
 (pb kb vb mb : Nat)
 (ra ga : Option Addr)
 (rn rc m gc : Nat)
 single : Bool
 G : List (Int × Int)
/-- The closure's variables, apart from what is known. -/
structure VEnv (V : VA) (w : World) : Prop where
 prob : w.heap[V.pb]? = some (.cells #[.slice V.ra V.rn V.rc, .slice V.ga V.m V.gc, .bool V.single] 25 (0, 0))
 known : w.heap[V.kb]? = some (.cells #[.map (some V.mb)] 102 (0, 0))
 value : w.heap[V.vb]? = some (.cells #[.func (.func 57) #[] #[.pointer (some ⟨V.pb, 0, none⟩), .pointer (some ⟨V.kb, 0, none⟩), .pointer (some ⟨V.vb, 0, none⟩)]] 88 (0, 0))
 groups : Pairs w V.ga V.m V.G
 kit : PKit w
 map : ∃ es ck, w.heap[V.mb]? = some (.map es ck)
theorem VEnv.upd {V : VA} {w w' : World} (h : VEnv V w) (hu : MUpd V.mb w w') : VEnv V w' :=
 ⟨hu.block h.prob, hu.block h.known, hu.block h.value, hu.pairs h.groups, hu.kit h.kit, hu.map'⟩
theorem VEnv.down {V : VA} {w w' : World} (h : VEnv V w) (hb : Below w.heap.size w w') : VEnv V w' := h.upd (MUpd.of_below hb h.map)

theorem VEnv.other {V : VA} {w w' : World} {tb : Nat} (h : VEnv V w) (hu : MUpd tb w w') (hne : tb ≠ V.mb) : VEnv V w' :=
 ⟨hu.block h.prob, hu.block h.known, hu.block h.value, hu.pairs h.groups, hu.kit h.kit, by
  obtain ⟨es, ck, e⟩ := h.map
  exact ⟨es, ck, (hu.other (lt_of_block e) (fun e => hne e.symm)).trans e⟩⟩
theorem MUpd.over {M tb : Nat} {w w' w'' : World} (h : MUpd M w w') (k : MUpd tb w' w'') (ht : w.heap.size ≤ tb) (hne : tb ≠ M) : MUpd M w w'' := by
 obtain ⟨es, ck, e⟩ := h.map'
 refine ⟨⟨k.grown.os.trans h.grown.os, k.grown.tape.trans h.grown.tape, k.grown.output.trans h.grown.output, Nat.le_trans h.grown.size k.grown.size, fun i hi hn => ?_⟩, h.map, ⟨es, ck, (k.other (lt_of_block e) (fun e => hne e.symm)).trans e⟩⟩
 rw [k.other (Nat.lt_of_lt_of_le hi h.grown.size) (by omega)]
 exact h.grown.block i hi hn

/-! ### How much may become known -/
def vcap (n : Nat) : Nat → Nat
 | 0 => 0
 | k + 1 => 1 + (n + 1) * vcap n k

/-! ### The loop over the runs -/
section
variable (single : Bool) (G : List (Int × Int)) (k g : Nat) (L : List (Int × Bool))
def packN (i : Nat) : Int := bestLoop (bestF single G k (g + 1)) (gs G g) (gv G g) (L.map (·.1)) (L.map (·.2)) (packF single G k (g + 1) L) i
variable {single G k g L}
theorem packN_zero : packN single G k g L 0 = packF single G k (g + 1) L := rfl
theorem packN_all : packN single G k g L L.length = packF single G (k + 1) g L := by
 unfold packN packF
 rw [bestF, List.length_map]
theorem ix_fst {L : List (Int × Bool)} {i : Nat} (hi : i < L.length) : ix (L.map (·.1)) i = L[i].1 := by unfold ix; simp [hi]
theorem go_sit {i : Nat} (hi : i < L.length) : bestF single G k (g + 1) ((L.map (·.1)).set i (ix (L.map (·.1)) i - gs G g)) ((L.map (·.2)).set i true) = packF single G k (g + 1) (sitF L i (gs G g)) := by
 unfold packF
 rw [(sit_maps L hi _).1, (sit_maps L hi _).2]
theorem packN_small {i : Nat} (hi : i < L.length) (h : L[i].1 < gs G g) : packN single G k g L (i + 1) = packN single G k g L i := by
 unfold packN
 rw [bestLoop, ix_fst hi, if_pos h]
theorem packN_sit {i : Nat} (hi : i < L.length) (h : ¬ L[i].1 < gs G g) : packN single G k g L (i + 1) = if 0 ≤ packF single G k (g + 1) (sitF L i (gs G g)) then max (packN single G k g L i) (packF single G k (g + 1) (sitF L i (gs G g)) + gs G g * gv G g) else packN single G k g L i := by
 have := go_sit (single := single) (G := G) (k := k) (g := g) hi
 unfold packN
 rw [bestLoop, ix_fst hi, if_neg h]
 rw [ix_fst hi] at this
 rw [this]
theorem packN_tried {i j : Nat} (hi : i < L.length) (hj : j < i) (h : ¬ L[i].1 < gs G g) (e : L[j]'(by omega) = L[i]) : packN single G k g L (i + 1) = packN single G k g L i := by
 rw [packN_sit hi h]
 by_cases h0 : 0 ≤ packF single G k (g + 1) (sitF L i (gs G g))
 ·
  rw [if_pos h0]
  have hjl : j < L.length := by omega
  have e2 : packF single G k (g + 1) (sitF L j (gs G g)) = packF single G k (g + 1) (sitF L i (gs G g)) := packF_alike single G k (g + 1) hjl hi e _
  have := pkLoop_each (bestF single G k (g + 1)) (gs G g) (gv G g) (L.map (·.1)) (L.map (·.2)) (packF single G k (g + 1) L) i j hj (by rw [ix_fst hjl, e]; omega) (by rw [go_sit hjl, e2]; exact h0)
  rw [go_sit hjl, e2] at this
  exact Int.max_eq_left this
 ·
  rw [if_neg h0]
theorem packF_range (hv : ValuesOk G) (hg : g + k = G.length) : -1 ≤ packF single G k g L ∧ packF single G k g L ≤ 12000000 * k := bestF_bounds hv k g _ _ hg
theorem packN_range (hv : ValuesOk G) (hg : g + 1 + k = G.length) (i : Nat) (hi : i ≤ L.length) : -1 ≤ packN single G k g L i ∧ packN single G k g L i ≤ 12000000 * (k + 1) := by
 have hgv := hv g (by omega)
 induction i with
 | zero =>
  rw [packN_zero]
  have := packF_range (single := single) (L := L) hv hg
  omega
 | succ i ih =>
  have ih := ih (by omega)
  by_cases hs : L[i].1 < gs G g
  ·
   rw [packN_small (by omega) hs]; exact ih
  ·
   rw [packN_sit (by omega) hs]
   have h2 := packF_range (single := single) (L := sitF L i (gs G g)) hv hg
   have h3 : gs G g * gv G g ≤ 12 * 1000000 := Int.mul_le_mul hgv.1.2 hgv.2.2 hgv.2.1 (by omega)
   split
   ·
    rw [Int.max_def]
    split <;> omega
   ·
    exact ih
theorem sit_range {L : List (Int × Bool)} {i : Nat} {s : Int} (hi : i < L.length) (h : ∀ r ∈ L, 0 ≤ r.1 ∧ r.1 ≤ 4000) (hs : 0 ≤ s) (hr : ¬ L[i].1 < s) : ∀ r ∈ sitF L i s, 0 ≤ r.1 ∧ r.1 ≤ 4000 := by
 intro r hr'
 rw [sit_eq L i hi] at hr'
 rcases List.mem_or_eq_of_mem_set hr' with h1 | rfl
 ·
  exact h r h1
 ·
  have := h L[i] (List.getElem_mem hi)
  dsimp only
  omega
end
theorem leaf_one (single : Bool) (L : List (Int × Bool)) : (single = true ∧ ∃ r ∈ L, r.2 = true ∧ r.1 = 1) ↔ single = true ∧ L.any oneP = true := by
 refine and_congr_right fun _ => ?_
 rw [List.any_eq_true]
 constructor
 ·
  rintro ⟨r, h1, h2, h3⟩
  exact ⟨r, h1, by unfold oneP; simp [h2, h3]⟩
 ·
  rintro ⟨r, h1, h2⟩
  unfold oneP at h2
  simp at h2
  exact ⟨r, h1, h2⟩
end Go.Proofs.YthabgljdndbphaaGreatDoor

namespace Go.Proofs.YthabgljdndbphaaGreatDoor
open Go.RowKit Go.IntWalk Go.Maps Go.WideMaps
set_option linter.unusedSimpArgs false
set_option linter.unusedVariables false

theorem wf_i64 {n : Int} (h1 : -9223372036854775808 ≤ n) (h2 : n ≤ 9223372036854775807) : (Lit.int .i64 n).wf = true := by
 show (decide _ && decide _) = true
 rw [Bool.and_eq_true]
 exact ⟨decide_eq_true h1, decide_eq_true h2⟩
theorem wf_int {x : Int} (h : 0 ≤ x ∧ x ≤ 4000) : (Lit.int .i64 x).wf = true := wf_i64 (by omega) (by omega)
theorem run_max2 (w : World) (ts : Array TypeId) (t : TypeId) (x y : Int) : (Builtin.max_ ts t #[.int .i64 x, .int .i64 y]).run Tryz.prog w = .ok (.int .i64 (max x y)) w := by
 unfold Builtin.max_
 show (List.foldlM Builtin.max2 (.int .i64 x) [.int .i64 y]).run _ w = _
 simp only [List.foldlM_cons, List.foldlM_nil]
 have : (Builtin.max2 (.int .i64 x) (.int .i64 y)).run Tryz.prog w = .ok (.int .i64 (max x y)) w := by
  unfold Builtin.max2
  by_cases h : x < y
  ·
   rw [Int.max_eq_right (by omega)]
   go_simp
  ·
   rw [Int.max_eq_left (by omega)]
   go_simp
 rw [Sem.run_bind, this]
 rfl

/-- What a call of value does. -/
def ValPost (V : VA) (n k g : Nat) (L : List (Int × Bool)) (N : Nat) (w : World) (e : Ending) (w' : World) : Prop :=
 e = .returned (.int .i64 (packF V.single V.G k g L)) ∧ MUpd V.mb w w' ∧ MemoAt w' V.mb (N + vcap n k) V.single V.G
set_option maxRecDepth 100000 in
set_option maxHeartbeats 16000000 in
theorem value_any (V : VA) (hv : ValuesOk V.G) (hm : V.G.length = V.m) (hm4 : V.m ≤ 4000) (n : Nat) (hn : n ≤ 4000) : ∀ (k g : Nat) (L : List (Int × Bool)) (w : World) (la : Option Addr) (c N : Nat), g + k = V.m → L.length = n → VEnv V w → MemoAt w V.mb N V.single V.G → Recs RunE w la n L → (∀ r ∈ L, 0 ≤ r.1 ∧ r.1 ≤ 4000) → N + vcap n k ≤ 9000000000000000000 →
  Calls Tryz.prog 57 #[.int .i64 g, .slice la n c, .pointer (some ⟨V.pb, 0, none⟩), .pointer (some ⟨V.kb, 0, none⟩), .pointer (some ⟨V.vb, 0, none⟩)] w (ValPost V n k g L N w) := by
 intro k
 induction k with
 | zero =>
  intro g L w la c N hg hL he hM hR hRB hN
  subst hL
  have HE := Lib.hid he
  have HM := Lib.hid hM
  have HR := Lib.hid hR
  have HRB := Lib.hid hRB
  clear he hM hR hRB
  refine enter_fr (N := 95) [.int .i64 g, .slice la L.length c, .pointer (some ⟨V.pb, 0, none⟩), .pointer (some ⟨V.kb, 0, none⟩), .pointer (some ⟨V.vb, 0, none⟩)] (Tryz.func57) rfl Tryz.ntmps57 (by rfl) (fun a hF => ?_);replace hF := hF.kp [0, 1, 2, 3, 4] rfl;revert hF;refine zrs [2] [0, 1, 2, 3, 4] fun a hF => ?_;refine wp_seq_k (fun K hK => ?_)
  obtain ⟨p0, p1, p2⟩ := And.intro (boxed_cell (j := 0) HE.out.prob rfl) (And.intro (boxed_cell (j := 1) HE.out.prob rfl) (boxed_cell (j := 2) HE.out.prob rfl))
  have hge : ((g : Int) == (V.m : Int)) = true := by simp; omega
  revert hF;refine zrs [1, 4, 4, 4, 5] [0, 1, 2, 3, 4, 21] fun a hF => ?_
  clear hge
  refine cond_yes hF rfl ?_
  refine wp_seq_k (fun K hK => ?_);refine wp_seq_k (fun K hK => ?_)
  cases hs : V.single
  ·
   rw [hs] at p2
   revert hF;refine zrg [4, 4, 1, 0, 0, 5] [27] fun a hF => ?_;refine hK _ _ ?_;clear hK
   refine cond_no hF rfl ?_
   refine wp_skip ?_
   refine hK _ _ ?_;clear hK;revert hF;refine zrs [2] [7] fun a hF => ?_;refine wp_ret ?_;(try simp only [then_ret, block_ret, goto_ret]);revert hF;refine zq ?_
   exact ⟨by rw [packF_zero, if_neg (by rw [hs]; simp)]; rfl, MUpd.refl HM.out.blk, HM.out.more (by omega)⟩
  ·
   rw [hs] at p2
   revert hF;refine zrp [4, 4, 1, 1] [4, 5] fun a hF => ?_;revert hF;refine zos fun K hK => ?_
   refine (contains_run w la L.length c L HR.out (by omega) 59 [] oneP (by kernel_rfl) (fun wx hb i hi => one1_any wx L[i])).mono ?_
   rintro e w1 ⟨rfl, hb⟩
   have HB := Lib.hid hb
   clear hb p0 p1 p2
   cases ho : L.any oneP
   ·
    refine hK _ _ (fun a hF => ?_);clear hK K;revert hF;refine zre 5 [5] [27] fun a hF => ?_;refine hK _ _ ?_;clear hK
    refine cond_no hF rfl ?_
    refine wp_skip ?_
    refine hK _ _ ?_;clear hK;revert hF;refine zrs [2] [7] fun a hF => ?_;refine wp_ret ?_;(try simp only [then_ret, block_ret, goto_ret]);revert hF;refine zq ?_
    exact ⟨by rw [packF_zero, if_neg (by rw [leaf_one, ho]; simp)]; rfl, MUpd.of_below HB.out HM.out.blk, (HM.out.down HB.out).more (by omega)⟩
   ·
    refine hK _ _ (fun a hF => ?_);clear hK K;revert hF;refine zre 5 [5] [27] fun a hF => ?_;refine hK _ _ ?_;clear hK
    refine cond_yes hF rfl ?_
    revert hF;refine zrs [2] [7] fun a hF => ?_;refine wp_ret ?_;(try simp only [then_ret, block_ret, goto_ret]);revert hF;refine zq ?_
    exact ⟨by rw [packF_zero, if_pos (by rw [leaf_one, ho]; simp [hs])]; rfl, MUpd.of_below HB.out HM.out.blk, (HM.out.down HB.out).more (by omega)⟩
 | succ k ih =>
  intro g L w la c N hg hL he hM hR hRB hN
  subst hL
  have HE := Lib.hid he
  have HM := Lib.hid hM
  have HR := Lib.hid hR
  have HRB := Lib.hid hRB
  have HIH := Lib.hid ih
  have HV := Lib.hid hv
  have HNC := Lib.hid hN
  have hgv := hv g (by omega)
  have hcm : 1 * vcap L.length k ≤ (L.length + 1) * vcap L.length k := Nat.mul_le_mul_right _ (by omega)
  have hN0 : N + vcap L.length k ≤ 9000000000000000000 := by
   rw [vcap] at hN
   omega
  have hN1 : N ≤ 9000000000000000000 := by omega
  clear he hM hR hRB ih hv hN
  refine enter_fr (N := 95) [.int .i64 g, .slice la L.length c, .pointer (some ⟨V.pb, 0, none⟩), .pointer (some ⟨V.kb, 0, none⟩), .pointer (some ⟨V.vb, 0, none⟩)] (Tryz.func57) rfl Tryz.ntmps57 (by rfl) (fun a hF => ?_);replace hF := hF.kp [0, 1, 2, 3, 4] rfl;revert hF;refine zrs [2] [0, 1, 2, 3, 4] fun a hF => ?_;refine wp_seq_k (fun K hK => ?_)
  obtain ⟨p0, p1, p2⟩ := And.intro (boxed_cell (j := 0) HE.out.prob rfl) (And.intro (boxed_cell (j := 1) HE.out.prob rfl) (boxed_cell (j := 2) HE.out.prob rfl))
  have hge : ((g : Int) == (V.m : Int)) = false := by simp; omega
  revert hF;refine zrs [1, 4, 4, 4, 5] [0, 1, 2, 3, 4, 21] fun a hF => ?_
  clear hge
  refine cond_no hF rfl ?_
  refine wp_skip ?_
  refine hK _ _ ?_;clear hK;refine wp_seq_k (fun K hK => ?_);revert hF;refine zrp [1, 1] [2, 3] fun a hF => ?_;revert hF;refine zos fun K hK => ?_
  refine (text_any w g la L.length c L HR.out hn (by omega) HRB.out HE.out.kit).mono ?_
  rintro e w1 ⟨t, rfl, hb1, ht, htl⟩
  clear p0 p1 p2
  have HT1 := Lib.hid ht
  have HE1 := Lib.hid (HE.out.down hb1)
  have HM1 := Lib.hid (HM.out.down hb1)
  have HU1 : Hid (MUpd V.mb w w1) := MUpd.of_below hb1 HE.out.map
  clear ht hb1 HM
  refine hK _ _ (fun a hF => ?_);clear hK K;revert hF;refine zre 3 [2] [0, 1, 2, 3, 4, 8] fun a hF => ?_;refine hK _ _ ?_;clear hK;refine wp_seq_k (fun K hK => ?_)
  have q0 := boxed_cell (j := 0) HE1.out.known rfl
  obtain ⟨v, b, hlk, hbv⟩ := HM1.out.look (k := k + 1) (by omega) (fun r hr => (HRB.out r hr).1) HT1.out htl
  revert hF;refine zrs [4, 1, 5, 1, 4, 4, 2, 2] [0, 1, 2, 3, 4, 8, 9, 10] fun a hF => ?_
  clear q0 hlk
  cases b
  rotate_left
  ·
   obtain rfl := hbv rfl
   revert hF;refine zrs [1] [0, 1, 2, 3, 4, 8, 9, 37] fun a hF => ?_
   refine cond_yes hF rfl ?_
   revert hF;refine zrs [1, 2] [7] fun a hF => ?_;refine wp_ret ?_;(try simp only [then_ret, block_ret, goto_ret]);revert hF;refine zq ?_
   exact ⟨rfl, HU1.out, HM1.out.more (by omega)⟩
  clear hbv
  revert hF;refine zrs [1] [0, 1, 2, 3, 4, 8, 9, 37] fun a hF => ?_
  refine cond_no hF rfl ?_
  refine wp_skip ?_
  refine hK _ _ ?_;clear hK
  have hg1 : IntKind.i64.wrap ((g : Int) + 1) = ((g + 1 : Nat) : Int) := wrap_succ (by omega)
  have q0 := boxed_cell (j := 0) HE1.out.value rfl
  refine wp_seq_k (fun K hK => ?_);revert hF;refine zrp [4, 1, 4, 1] [4, 5] fun a hF => ?_;refine seq_one ?_;refine op_callv [_, _] _ _ rfl rfl hF rfl rfl (by first | assumption | kernel_rfl) ⟨rfl, rfl, trivial⟩ (fun K hK => ?_);clear hF
  refine (HIH.out (g + 1) L w1 la c N (by omega) rfl HE1.out HM1.out (HU1.out.recs HR.out) HRB.out hN0).mono ?_
  rintro e w2 ⟨rfl, hu2, hm2⟩
  clear q0
  have HE2 := Lib.hid (HE1.out.upd hu2)
  have HU2 := Lib.hid (HU1.out.trans hu2)
  have HM2 := Lib.hid hm2
  clear hu2 hm2 HE1 HU1 HM1
  rw [← packN_zero]
  refine hK _ _ (fun a hF => ?_);clear hK K;revert hF;refine zre 5 [2] [0, 1, 2, 3, 4, 8, 11] fun a hF => ?_;refine hK _ _ ?_;clear hK;refine wp_seq_k (fun K hK => ?_)
  have hmm := @run_makeMap Tryz.prog
  refine region_seq (l := [0, 1]) (by kernel_rfl) ?_;refine seq_one ?_;revert hF;refine qe0 fun a hF => ?_
  have ht0 := TriedAt.made w2
  have hb0 := Joins.below_alloc1 w2 (.map #[] 0)
  obtain ⟨tb, htb⟩ : ∃ tb, tb = w2.heap.size := ⟨_, rfl⟩
  rw [← htb] at ht0
  generalize w2.alloc (.map #[] 0) = w6 at *
  rw [← htb] at hF
  have HE6 := Lib.hid (HE2.out.down hb0)
  have HU0 := Lib.hid (HU2.out.down hb0)
  have HM0 : Hid (MemoAt w6 V.mb (N + (1 + 0) * vcap L.length k) V.single V.G) := by
   rw [show (1 + 0) * vcap L.length k = vcap L.length k from by rw [Nat.add_zero, Nat.one_mul]]
   exact HM2.out.down hb0
  have HT0 := Lib.hid ht0
  have HTB0 : Hid (w.heap.size ≤ tb) := by
   have := HU2.out.grown.size
   show w.heap.size ≤ tb
   omega
  have HTB : Hid (tb ≠ V.mb) := by
   obtain ⟨es, ck, e⟩ := HE2.out.map
   have := lt_of_block e
   show tb ≠ V.mb
   omega
  have HS0 : Hid (∀ r, r ∈ ([] : List (Int × Bool)) ↔ ∃ j, ∃ hj : j < L.length, j < 0 ∧ L[j] = r ∧ ¬ r.1 < gs V.G g) := fun r => ⟨fun h => absurd h (by simp), fun ⟨j, _, h, _⟩ => absurd h (Nat.not_lt_zero _)⟩
  clear ht0 hb0 htb HE2 HU2 HM2 HE6
  revert hF;refine zre 1 [2] [0, 1, 2, 3, 4, 8, 11, 12] fun a hF => ?_;refine hK _ _ ?_;clear hK
  refine seq_cut (fun a' w' => ∃ S : List (Int × Bool), FrF 95 [] [(0, .int .i64 g), (1, .slice la L.length c), (2, .pointer (some ⟨V.pb, 0, none⟩)), (3, .pointer (some ⟨V.kb, 0, none⟩)), (4, .pointer (some ⟨V.vb, 0, none⟩)), (8, .string (bs t)), (11, .int .i64 (packN V.single V.G k g L L.length))] a' ∧ Hid (MUpd V.mb w w') ∧ Hid (MemoAt w' V.mb (N + (1 + L.length) * vcap L.length k) V.single V.G) ∧ Hid (TriedAt w' tb L.length S) ∧ Hid (∀ r, r ∈ S ↔ ∃ j, ∃ hj : j < L.length, j < L.length ∧ L[j] = r ∧ ¬ r.1 < gs V.G g)) (fun KAi hKAi => ?_) ?_
  ·
   skip
   revert hF;refine zrs [1, 4, 1] [0, 1, 2, 3, 4, 8, 11, 12, 45, 46, 47] fun a hF => ?_
   refine wp_block ?_
   refine loop_fr (fun qi a' w' => ∃ i : Nat, i + qi = L.length ∧ ∃ S : List (Int × Bool), FrF 95 [] [(0, .int .i64 g), (1, .slice la L.length c), (2, .pointer (some ⟨V.pb, 0, none⟩)), (3, .pointer (some ⟨V.kb, 0, none⟩)), (4, .pointer (some ⟨V.vb, 0, none⟩)), (8, .string (bs t)), (11, .int .i64 (packN V.single V.G k g L i)), (12, .map (some tb)), (45, .slice la L.length c), (46, .int .i64 L.length), (47, .int .i64 i)] a' ∧ Hid (MUpd V.mb w w') ∧ Hid (MemoAt w' V.mb (N + (1 + i) * vcap L.length k) V.single V.G) ∧ Hid (TriedAt w' tb i S) ∧ Hid (∀ r, r ∈ S ↔ ∃ j, ∃ hj : j < L.length, j < i ∧ L[j] = r ∧ ¬ r.1 < gs V.G g)) (L.length) ⟨0, by omega, _, hF, HU0, HM0, HT0, HS0⟩ ?_
   clear hF HU0  HM0  HT0  HS0
   rintro rki a wr ⟨i, hiki, S, hF, HU, HMM, HT, HS⟩ KBi hKBi
   by_cases hlt : i < L.length
   rotate_left
   ·
    have hlti : ¬ (i : Int) < (L.length : Nat) := by omega
    revert hF;refine zrs [5] [0, 1, 2, 3, 4, 8, 11, 12, 45, 46, 47, 48] fun a hF => ?_;refine wp_seq_k (fun K hK => ?_)
    refine cond_no hF rfl ?_
    refine wp_exit ?_
    have hie : i = L.length := by omega
    rw [hie] at hF HMM HT HS
    exact hKAi _ _ ⟨_, hF.sub ⟨rfl, rfl, rfl, rfl, rfl, rfl, rfl, trivial⟩, HU, HMM, HT, HS⟩
   have hlti : (i : Int) < (L.length : Nat) := by omega
   revert hF;refine zrs [5] [0, 1, 2, 3, 4, 8, 11, 12, 45, 46, 47, 48] fun a hF => ?_;refine wp_seq_k (fun K hK => ?_)
   refine cond_yes hF rfl ?_
   refine wp_skip ?_
   refine hK _ _ ?_;clear hK;replace hF := hF.kp [0, 1, 2, 3, 4, 8, 11, 12, 45, 46, 47] rfl
   clear hKAi
   refine seq_cut (fun a' w' => ∃ S : List (Int × Bool), FrF 95 [] [(0, .int .i64 g), (1, .slice la L.length c), (2, .pointer (some ⟨V.pb, 0, none⟩)), (3, .pointer (some ⟨V.kb, 0, none⟩)), (4, .pointer (some ⟨V.vb, 0, none⟩)), (8, .string (bs t)), (11, .int .i64 (packN V.single V.G k g L (i + 1))), (12, .map (some tb)), (45, .slice la L.length c), (46, .int .i64 L.length), (47, .int .i64 i)] a' ∧ Hid (MUpd V.mb w w') ∧ Hid (MemoAt w' V.mb (N + (1 + (i + 1)) * vcap L.length k) V.single V.G) ∧ Hid (TriedAt w' tb (i + 1) S) ∧ Hid (∀ r, r ∈ S ↔ ∃ j, ∃ hj : j < L.length, j < (i + 1) ∧ L[j] = r ∧ ¬ r.1 < gs V.G g)) (fun KCi hKCi => ?_) ?_
   rotate_left
   ·
    clear hF HU HMM HT HS
    rintro a w' ⟨S, hF, HU, HMM, HT, HS⟩
    have hws : IntKind.i64.wrap ((i : Int) + 1) = ((i + 1 : Nat) : Int) := wrap_succ (by omega)
    revert hF;refine zrg [4, 1] [0, 1, 2, 3, 4, 8, 11, 12, 45, 46, 47] fun a hF => ?_
    exact hKBi (L.length - (i + 1)) _ _ (by omega) ⟨i + 1, by omega, _, hF, HU, HMM, HT, HS⟩
   clear hKBi hiki
   refine wp_block ?_
   have hil : i < L.length := hlt
   have hri := HRB.out L[i] (List.getElem_mem hil)
   have HEr := Lib.hid (HE.out.upd HU.out)
   obtain ⟨bb, oo, hla, c0, c1⟩ := run_at (HU.out.recs HR.out) i hlt hil
   have HLA := Lib.hid hla
   rw [hla] at hF
   have hii : (i : Int) < (L.length : Nat) := by omega
   have HN1 : Hid (L[i].1 < gs V.G g → packN V.single V.G k g L (i + 1) = packN V.single V.G k g L i) := packN_small hil
   have HN2 : Hid (¬ L[i].1 < gs V.G g → packN V.single V.G k g L (i + 1) = if 0 ≤ packF V.single V.G k (g + 1) (sitF L i (gs V.G g)) then max (packN V.single V.G k g L i) (packF V.single V.G k (g + 1) (sitF L i (gs V.G g)) + gs V.G g * gv V.G g) else packN V.single V.G k g L i) := packN_sit hil
   have HN3 : Hid (¬ L[i].1 < gs V.G g → L[i] ∈ S → packN V.single V.G k g L (i + 1) = packN V.single V.G k g L i) := fun h1 h2 => by
    obtain ⟨j, hj, hji, e, _⟩ := (HS.out _).1 h2
    exact packN_tried hil hji h1 e
   have HS1 : Hid (L[i].1 < gs V.G g → ∀ r, r ∈ S ↔ ∃ j, ∃ hj : j < L.length, j < i + 1 ∧ L[j] = r ∧ ¬ r.1 < gs V.G g) := fun h1 r => by
    rw [HS.out r]
    constructor
    ·
     rintro ⟨j, hj, h2, h3⟩
     exact ⟨j, hj, by omega, h3⟩
    ·
     rintro ⟨j, hj, h2, h3, h4⟩
     refine ⟨j, hj, ?_, h3, h4⟩
     by_cases e : j = i
     ·
      subst e
      rw [h3] at h1
      exact absurd h1 h4
     ·
      omega
   have HS3 : Hid (¬ L[i].1 < gs V.G g → L[i] ∈ S → ∀ r, r ∈ S ↔ ∃ j, ∃ hj : j < L.length, j < i + 1 ∧ L[j] = r ∧ ¬ r.1 < gs V.G g) := fun h0 h1 r => by
    constructor
    ·
     intro hr
     obtain ⟨j, hj, h2, h3⟩ := (HS.out r).1 hr
     exact ⟨j, hj, by omega, h3⟩
    ·
     rintro ⟨j, hj, h2, h3, h4⟩
     by_cases e : j = i
     ·
      subst e
      rw [h3] at h1
      exact h1
     ·
      exact (HS.out r).2 ⟨j, hj, by omega, h3, h4⟩
   have HS2 : Hid (¬ L[i].1 < gs V.G g → ∀ r, r ∈ L[i] :: S ↔ ∃ j, ∃ hj : j < L.length, j < i + 1 ∧ L[j] = r ∧ ¬ r.1 < gs V.G g) := fun h0 r => by
    rw [List.mem_cons]
    constructor
    ·
     rintro (rfl | hr)
     ·
      exact ⟨i, hil, by omega, rfl, h0⟩
     ·
      obtain ⟨j, hj, h2, h3⟩ := (HS.out r).1 hr
      exact ⟨j, hj, by omega, h3⟩
    ·
     rintro ⟨j, hj, h2, h3, h4⟩
     by_cases e : j = i
     ·
      subst e
      exact Or.inl h3.symm
     ·
      exact Or.inr ((HS.out r).2 ⟨j, hj, by omega, h3, h4⟩)
   have HSR : Hid (¬ L[i].1 < gs V.G g → ∀ r ∈ sitF L i (gs V.G g), 0 ≤ r.1 ∧ r.1 ≤ 4000) := fun h0 => sit_range hil HRB.out (by omega) h0
   have HPR : Hid (-1 ≤ packN V.single V.G k g L i ∧ packN V.single V.G k g L i ≤ 12000000 * (k + 1)) := packN_range HV.out (by omega) i (by omega)
   have HPS : Hid (-1 ≤ packF V.single V.G k (g + 1) (sitF L i (gs V.G g)) ∧ packF V.single V.G k (g + 1) (sitF L i (gs V.G g)) ≤ 12000000 * k) := packF_range HV.out (by omega)
   have hcap2 : N + (1 + (i + 1)) * vcap L.length k = N + (1 + i) * vcap L.length k + vcap L.length k := by
    rw [← Nat.add_assoc, Nat.add_mul (1 + i) 1, Nat.one_mul, Nat.add_assoc]
   have hcap3 : N + (1 + i) * vcap L.length k + vcap L.length k ≤ 9000000000000000000 := by
    have h1 : (1 + (i + 1)) * vcap L.length k ≤ (L.length + 1) * vcap L.length k := Nat.mul_le_mul_right _ (by omega)
    have h2 := HNC.out
    rw [vcap] at h2
    omega
   rw [hcap2] at hKCi
   have hNB : N + (1 + i) * vcap L.length k ≤ 9000000000000000000 := by omega
   obtain ⟨NB, hNBe⟩ : ∃ NB, NB = N + (1 + i) * vcap L.length k := ⟨_, rfl⟩
   rw [← hNBe] at HMM hKCi hcap3 hNB
   clear hcap2 hNBe
   have HIH2 : Hid (¬ L[i].1 < gs V.G g → ∀ (wx : World) (lb : Option Addr) (cb : Nat), VEnv V wx → MemoAt wx V.mb NB V.single V.G → Recs RunE wx lb L.length (sitF L i (gs V.G g)) → Calls Tryz.prog 57 #[.int .i64 ((g + 1 : Nat) : Int), .slice lb L.length cb, .pointer (some ⟨V.pb, 0, none⟩), .pointer (some ⟨V.kb, 0, none⟩), .pointer (some ⟨V.vb, 0, none⟩)] wx (ValPost V L.length k (g + 1) (sitF L i (gs V.G g)) NB wx)) := fun h0 wx lb cb h1 h2 h3 =>
    HIH.out (g + 1) (sitF L i (gs V.G g)) wx lb cb NB (by omega) (sit_len _ _ _) h1 h2 h3 (HSR.out h0) hcap3
   have HST : Hid (∀ wx, Recs RunE wx (some ⟨bb, oo, none⟩) L.length L → Calls Tryz.prog 44 #[.slice (some ⟨bb, oo, none⟩) L.length c, .int .i64 i, .int .i64 (gs V.G g)] wx fun e w' => ∃ g' c', e = .returned (.slice (some ⟨g', 0, none⟩) L.length c') ∧ Below wx.heap.size wx w' ∧ wx.heap.size ≤ g' ∧ (sitF L i (gs V.G g)).length = L.length ∧ RecRow RunE w' g' 63 (sitF L i (gs V.G g))) := fun wx hx =>
    seat_any wx _ L.length c L i (gs V.G g) hx hn hil (by omega) (fun r hr => by have := HRB.out r hr; omega)
   have HRw : Hid (Recs RunE wr (some ⟨bb, oo, none⟩) L.length L) := by
    have := HU.out.recs HR.out
    rw [hla] at this
    exact this
   obtain ⟨PN, hPN⟩ : ∃ x, x = packN V.single V.G k g L i := ⟨_, rfl⟩
   obtain ⟨PN1, hPN1⟩ : ∃ x, x = packN V.single V.G k g L (i + 1) := ⟨_, rfl⟩
   obtain ⟨PF, hPF⟩ : ∃ x, x = packF V.single V.G k (g + 1) (sitF L i (gs V.G g)) := ⟨_, rfl⟩
   rw [← hPN] at hF HN1 HN2 HN3 HPR
   rw [← hPN1] at hKCi HN1 HN2 HN3
   rw [← hPF] at HN2 HPS
   have HPF := Lib.hid hPF
   clear hPN hPN1 hPF hla
   obtain ⟨L', hL'⟩ : ∃ x, x = sitF L i (gs V.G g) := ⟨_, rfl⟩
   rw [← hL'] at HIH2 HST HSR HPF
   clear hL'
   obtain ⟨r, hr⟩ : ∃ r, r = L[i] := ⟨_, rfl⟩
   rw [← hr] at c0 c1 hri HN1 HN2 HN3 HS1 HS2 HS3 HSR HIH2
   clear hr HS
   refine wp_seq_k (fun K hK => ?_);revert hF;refine zrp [1, 5, 4] [3, 4, 5] fun a hF => ?_;refine seq_one ?_;revert hF;refine qe0 fun a hF => ?_
   obtain ⟨wa, gr, hwa, hgv, hSV, HTW⟩ := var_new wr 63 #[.int .i64 0, .bool false] #[.int .i64 r.1, .bool r.2] (by kernel_rfl) rfl (by simp [Value.oneCell'])
   rw [hwa]
   rw [← hgv] at hF
   clear hwa hgv
   revert hF;refine zrc 4 [2] [5] fun a hF => ?_;refine seq_one ?_;refine op_storev rfl rfl hF rfl rfl rfl rfl hSV ?_;clear hF;refine fun a hF => ?_
   clear hSV
   refine hK _ _ ?_;clear hK
   generalize wa.setRow gr #[.int .i64 r.1, .bool r.2] = w3 at *
   clear c0 c1
   have HTW1 := HTW
   clear HTW
   have HE3 := Lib.hid (HEr.out.down HTW1.out.1)
   have HU3 := Lib.hid (HU.out.down HTW1.out.1)
   have HM3 := Lib.hid (HMM.out.down HTW1.out.1)
   have HT3 := Lib.hid (HT.out.down HTW1.out.1)
   have HR3 := Lib.hid (HRw.out.below HTW1.out.1)
   have HX3 : Hid (w3.heap[gr]? = some (.cells #[.int .i64 r.1, .bool r.2] 63 (0, 0))) := HTW1.out.2.1
   clear HEr HU HMM HT HRw HTW1
   obtain ⟨p0, p1, p2⟩ := And.intro (boxed_cell (j := 0) HE3.out.prob rfl) (And.intro (boxed_cell (j := 1) HE3.out.prob rfl) (boxed_cell (j := 2) HE3.out.prob rfl))
   obtain ⟨bg, og, hga, e0, e1⟩ := HE3.out.groups.2 g (by omega)
   rw [hga] at p1
   have hgm : (g : Int) < (V.m : Nat) := by omega
   clear hga
   refine wp_seq_k (fun K hK => ?_);revert hF;refine zrp [4, 4, 1, 5, 4] [5, 6] fun a hF => ?_;refine seq_one ?_;revert hF;refine qe0 fun a hF => ?_
   obtain ⟨wa, gx, hwa, hgv, hSV, HTW⟩ := var_new w3 49 #[.int .i64 0, .int .i64 0] #[.int .i64 (gs V.G g), .int .i64 (gv V.G g)] (by kernel_rfl) rfl (by simp [Value.oneCell'])
   rw [hwa]
   rw [← hgv] at hF
   clear hwa hgv
   refine seq_one ?_;refine op_storev rfl rfl hF rfl rfl rfl rfl hSV ?_;clear hF;refine fun a hF => ?_
   clear hSV
   refine hK _ _ ?_;clear hK
   generalize wa.setRow gx #[.int .i64 (gs V.G g), .int .i64 (gv V.G g)] = w4 at *
   clear p0 p1 p2 e0 e1
   have HE4 := Lib.hid (HE3.out.down HTW.out.1)
   have HU4 := Lib.hid (HU3.out.down HTW.out.1)
   have HM4 := Lib.hid (HM3.out.down HTW.out.1)
   have HT4 := Lib.hid (HT3.out.down HTW.out.1)
   have HR4 := Lib.hid (HR3.out.below HTW.out.1)
   have HX4 : Hid (w4.heap[gr]? = some (.cells #[.int .i64 r.1, .bool r.2] 63 (0, 0))) := (HTW.out.1.block gr (lt_of_block HX3.out)).trans HX3.out
   have HY4 : Hid (w4.heap[gx]? = some (.cells #[.int .i64 (gs V.G g), .int .i64 (gv V.G g)] 49 (0, 0))) := HTW.out.2.1
   clear HE3 HU3 HM3 HT3 HR3 HX3 HTW
   have r0 := boxed_cell (j := 0) HX4.out rfl
   have r1 := boxed_cell (j := 1) HX4.out rfl
   have x0 := boxed_cell (j := 0) HY4.out rfl
   have x1 := boxed_cell (j := 1) HY4.out rfl
   have hwf : (Lit.int .i64 r.1).wf = true := wf_int hri
   by_cases hfit : r.1 < gs V.G g
   ·
    have hq : decide (gs V.G g ≤ r.1) = false := by simp; omega
    revert hF;refine zrs [4, 4, 4, 4, 5, 1, 0, 0, 0, 0, 5] [0, 1, 2, 3, 4, 8, 11, 12, 13, 14, 15, 45, 46, 47, 67] fun a hF => ?_
    clear hq r0 r1 x0 x1
    refine cond_no hF rfl ?_
    refine wp_skip ?_
    replace hF := hF.kp [0, 1, 2, 3, 4, 8, 11, 12, 45, 46, 47] rfl
    rw [HN1.out hfit] at hKCi
    refine hKCi _ _ ⟨S, ?_, HU4, HM4.out.more (by omega), ⟨HT4.out.choose, ?_, HT4.out.choose_spec.2⟩, HS1.out hfit⟩
    ·
     rw [← HLA.out] at hF
     exact hF
    ·
     exact HT4.out.choose_spec.1.mono (by omega)
   have hq : decide (gs V.G g ≤ r.1) = true := by simp; omega
   have hlk := HT4.out.look r hwf
   have hlv : (loadVar 63 ⟨gr, 0, none⟩).run Tryz.prog w4 = .ok (.agg #[.int .i64 r.1, .bool r.2]) w4 := by go_simp
   by_cases htr : r ∈ S
   ·
    rw [decide_eq_true htr] at hlk
    revert hF;refine zrs [4, 4, 4, 4, 5, 1, 1, 4, 5, 4, 5] [0, 1, 2, 3, 4, 8, 11, 12, 13, 14, 15, 45, 46, 47, 67] fun a hF => ?_
    clear hq r0 r1 x0 x1 hlk hlv
    refine cond_no hF rfl ?_
    refine wp_skip ?_
    replace hF := hF.kp [0, 1, 2, 3, 4, 8, 11, 12, 45, 46, 47] rfl
    rw [HN3.out hfit htr] at hKCi
    refine hKCi _ _ ⟨S, ?_, HU4, HM4.out.more (by omega), ⟨HT4.out.choose, ?_, HT4.out.choose_spec.2⟩, HS3.out hfit htr⟩
    ·
     rw [← HLA.out] at hF
     exact hF
    ·
     exact HT4.out.choose_spec.1.mono (by omega)
   rw [decide_eq_false htr] at hlk
   revert hF;refine zrs [4, 4, 4, 4, 5, 1, 1, 4, 5, 4, 5] [0, 1, 2, 3, 4, 8, 11, 12, 13, 14, 15, 45, 46, 47, 67] fun a hF => ?_
   clear hq hlk
   refine cond_yes hF rfl ?_
   obtain ⟨w5, hMU, ht5, hg5⟩ := HT4.out.put (by omega) r hwf
   refine wp_seq_k (fun K hK => ?_);revert hF;refine zrp [1, 4] [2] fun a hF => ?_;refine seq_one ?_;revert hF;refine qu2 fun a hF => ?_
   clear hMU hlv r0 r1 x0 x1
   refine seq_end ?_;replace hF := hF.kp [0, 1, 2, 3, 4, 8, 11, 12, 13, 15, 45, 46, 47] rfl;refine hK _ _ ?_;clear hK
   have hTU : MUpd tb w4 w5 := ⟨hg5, HT4.out.blk, ht5.blk⟩
   have hbd := below_d (Below.refl w5.heap.size w5)
   have HEd := Lib.hid ((HE4.out.other hTU HTB.out).down hbd)
   have HUd := Lib.hid ((HU4.out.over hTU HTB0.out HTB.out).down hbd)
   have HMd : Hid (MemoAt w5.drew V.mb NB V.single V.G) := (HM4.out.heap (by
    obtain ⟨es, ck, e⟩ := HM4.out.blk
    exact hTU.other (lt_of_block e) (fun e => HTB.out e.symm))).down hbd
   have HTd : Hid (TriedAt w5.drew tb (i + 1) (r :: S)) := ht5.down hbd
   have HRd : Hid (Recs RunE w5.drew (some ⟨bb, oo, none⟩) L.length L) := (hTU.recs HR4.out).below hbd
   have HYd : Hid (w5.drew.heap[gx]? = some (.cells #[.int .i64 (gs V.G g), .int .i64 (gv V.G g)] 49 (0, 0))) := hTU.block HY4.out
   clear hTU hbd ht5 hg5 HE4 HU4 HM4 HT4 HR4 HX4 HY4
   have hg1 : IntKind.i64.wrap ((g : Int) + 1) = ((g + 1 : Nat) : Int) := wrap_succ (by omega)
   have HSS : Hid (∀ w', MUpd V.mb w5.drew w' → True ∧ w'.cell? ⟨V.vb, 0, none⟩ = some (.func (.func 57) #[] #[.pointer (some ⟨V.pb, 0, none⟩), .pointer (some ⟨V.kb, 0, none⟩), .pointer (some ⟨V.vb, 0, none⟩)]) ∧ w'.cell? ⟨gx, 0, none⟩ = some (.int .i64 (gs V.G g))) := fun w' hu => ⟨trivial, hu.cell (boxed_cell (j := 0) HEd.out.value rfl), hu.cell (boxed_cell (j := 0) HYd.out rfl)⟩
   refine wp_seq_k (fun K hK => ?_);refine region_any (by kernel_rfl) ?_;generalize w5.drew = wd at *;revert hF;refine zhc (fuel := 3) (fun w' => True ∧ w'.cell? ⟨V.vb, 0, none⟩ = some (.func (.func 57) #[] #[.pointer (some ⟨V.pb, 0, none⟩), .pointer (some ⟨V.kb, 0, none⟩), .pointer (some ⟨V.vb, 0, none⟩)]) ∧ w'.cell? ⟨gx, 0, none⟩ = some (.int .i64 (gs V.G g))) (HSS.out _ (MUpd.refl HEd.out.map)) [3, 17, 40, 49, 65, 88, 99] fun a hF => ?_;refine held_one (n := 7) (fuel := 2) (by kernel_rfl) ?_;revert hF;refine zoc fun K hK => ?_
   refine (HST.out wd HRd.out).mono ?_
   rintro e w6 ⟨g', c', rfl, hb6, _, hl6, hr6⟩
   have hu6 := MUpd.of_below hb6 HEd.out.map
   refine hK _ _ (fun a hF => ⟨?_, ?_⟩)
   ·
    intro _
    exact HSS.out _ hu6
   clear hK K
   have HE6 := Lib.hid (HEd.out.upd hu6)
   have HM6 := Lib.hid (HMd.out.down hb6)
   have HT6 := Lib.hid (HTd.out.down hb6)
   have HL6 : Hid (Recs RunE w6 (some ⟨g', 0, none⟩) L.length L') := by
    have := hr6.recs
    rw [hl6] at this
    exact this
   have HUd6 : Hid (MUpd V.mb wd w6) := hu6
   have HU6 := Lib.hid (HUd.out.trans hu6)
   clear hr6 hl6
   revert hF;refine zhg (fuel := 2) (HSS.out _ HUd6.out) [] fun a hF => ?_;refine held_one (n := 8) (fuel := 1) (by kernel_rfl) ?_;refine op_callv [_, _] _ _ rfl rfl hF rfl rfl (by first | assumption | kernel_rfl) ⟨rfl, rfl, trivial⟩ (fun K hK => ?_);clear hF
   refine (HIH2.out hfit w6 _ c' HE6.out HM6.out HL6.out).mono ?_
   rintro e w7 ⟨rfl, hu7, hm7⟩
   rw [← HPF.out]
   refine hK _ _ (fun a hF => ⟨?_, ?_⟩)
   ·
    intro _
    exact HSS.out _ (HUd6.out.trans hu7)
   clear hK K
   have HY7 : Hid (w7.heap[gx]? = some (.cells #[.int .i64 (gs V.G g), .int .i64 (gv V.G g)] 49 (0, 0))) := (HUd6.out.trans hu7).block HYd.out
   have HU7 := Lib.hid (HU6.out.trans hu7)
   have HM7 := Lib.hid hm7
   have HT7 : Hid (TriedAt w7 tb (i + 1) (r :: S)) := HT6.out.heap (by
    obtain ⟨es, ck, e⟩ := HT6.out.blk
    exact hu7.other (lt_of_block e) HTB.out)
   clear hm7 HE6 HM6 HT6 HL6 HU6
   revert hF;refine zhg (fuel := 0) (HSS.out _ (HUd6.out.trans hu7)) [146] fun a hF => ?_;refine held_end (by kernel_rfl) ?_;replace hF := hF.kp [0, 1, 2, 3, 4, 8, 11, 12, 15, 16, 45, 46, 47] rfl
   clear hu7 HUd6 HEd HUd HMd HTd HRd HYd hu6 hb6
   refine hK _ _ ?_;clear hK
   clear HSS
   rw [← HLA.out] at hF
   by_cases hpf : 0 ≤ PF
   rotate_left
   ·
    have hq : decide (0 ≤ PF) = false := by simp; omega
    have hq0 : ¬ 0 ≤ PF := hpf
    revert hF;refine zrs [1, 4] [0, 1, 2, 3, 4, 8, 11, 12, 15, 16, 45, 46, 47, 80] fun a hF => ?_
    refine cond_no hF rfl ?_
    refine wp_skip ?_
    replace hF := hF.kp [0, 1, 2, 3, 4, 8, 11, 12, 45, 46, 47] rfl
    have hn2 := HN2.out hfit
    rw [if_neg hpf] at hn2
    rw [hn2] at hKCi
    exact hKCi _ _ ⟨_, hF, HU7, HM7, HT7, HS2.out hfit⟩
   have hq : decide (0 ≤ PF) = true := by simp; omega
   revert hF;refine zrs [1, 4] [0, 1, 2, 3, 4, 8, 11, 12, 15, 16, 45, 46, 47, 80] fun a hF => ?_
   clear hq
   refine cond_yes hF rfl ?_
   have y0 := boxed_cell (j := 0) HY7.out rfl
   have y1 := boxed_cell (j := 1) HY7.out rfl
   have hm0 : 0 ≤ gs V.G g * gv V.G g ∧ gs V.G g * gv V.G g ≤ 12000000 := ⟨Int.mul_nonneg (by omega) (by omega), Int.le_trans (Int.mul_le_mul hgv.1.2 hgv.2.2 hgv.2.1 (by omega)) (by omega)⟩
   have hps := HPS.out
   have hw1 : IntKind.i64.wrap (gs V.G g * gv V.G g) = gs V.G g * gv V.G g := wrap_in (by omega) (by omega)
   have hw2 : IntKind.i64.wrap (PF + gs V.G g * gv V.G g) = PF + gs V.G g * gv V.G g := wrap_in (by omega) (by omega)
   have hn2 := HN2.out hfit
   rw [if_pos hpf] at hn2
   have hmx : ∀ w, (Builtin.max_ #[3, 3] 3 #[.int .i64 PN, .int .i64 (PF + gs V.G g * gv V.G g)]).run Tryz.prog w = .ok (.int .i64 PN1) w := fun w => by
    rw [run_max2, hn2]
   clear hn2
   revert hF;refine zrg [1, 1, 4, 4, 4, 4, 5, 5, 5, 2] [0, 1, 2, 3, 4, 8, 11, 12, 45, 46, 47] fun a hF => ?_
   exact hKCi _ _ ⟨_, hF, HU7, HM7, HT7, HS2.out hfit⟩
  clear hF HU0  HM0  HT0  HS0
  rintro a w20 ⟨S, hF, HU, HMM, HT, HS⟩
  refine wp_seq_k (fun K hK => ?_)
  have hpn : packN V.single V.G k g L L.length = packF V.single V.G (k + 1) g L := packN_all
  rw [hpn] at hF
  clear hpn HS HT
  have HE20 := Lib.hid (HE.out.upd HU.out)
  have q0 := boxed_cell (j := 0) HE20.out.known rfl
  obtain ⟨w21, hMU, hm21, hg21⟩ := HMM.out.put (by
   have := HNC.out
   rw [vcap] at this
   rw [Nat.add_comm 1 L.length]
   omega) (k := k + 1) (by omega) (fun r hr => (HRB.out r hr).1) HT1.out htl
  revert hF;refine zrp [4, 1, 1] [3] fun a hF => ?_;refine seq_one ?_;revert hF;refine qu3 fun a hF => ?_
  clear q0 hMU
  refine seq_end ?_;replace hF := hF.kp [11] rfl;refine hK _ _ ?_;clear hK
  have hU21 : MUpd V.mb w20 w21 := ⟨hg21, HMM.out.blk, hm21.blk⟩
  revert hF;refine zrs [1, 2] [7] fun a hF => ?_;refine wp_ret ?_;(try simp only [then_ret, block_ret, goto_ret]);revert hF;refine zq ?_
  refine ⟨rfl, HU.out.trans hU21, hm21.more ?_⟩
  rw [vcap, Nat.add_comm 1 L.length]
  omega
end Go.Proofs.YthabgljdndbphaaGreatDoor
