/- pack: plain: the solution, group by group; pack.solution: what it works on; pack.values, pack.solution: the walks. -/
import Derived.Test.YthabgljdndbphaaGreatDoorQPKM22
import Derived.Laws.EntriesVeiled

set_option linter.unusedVariables false
set_option linter.unusedSimpArgs false
namespace Go.Proofs.YthabgljdndbphaaGreatDoor
set_option linter.unusedSimpArgs false
set_option linter.unusedVariables false

/-- The spots of the solution, from group g on. -/
def solF (single : Bool) (R : List Int) (G : List (Int × Int)) : Nat → Nat → List (Int × Bool) → Int → List (Int × Int)
 | 0, _, _, _ => []
 | k + 1, g, L, left => match (List.range L.length).find? (pickAt single G k g L left) with
  | some i => ((i : Int), ix R i - (L.getD i (0, false)).1) :: solF single R G k (g + 1) (sitF L i (gs G g)) (left - gs G g * gv G g)
  | none => (-1, 0) :: solF single R G k (g + 1) L left
/-- One group: its spot, the runs and what is left to bring behind it. -/
structure SolStep (single : Bool) (R : List Int) (G : List (Int × Int)) (k g : Nat) (L : List (Int × Bool)) (lf : Int) (sp : Int × Int) (L' : List (Int × Bool)) (lf' : Int) : Prop where
 sol : solF single R G (k + 1) g L lf = sp :: solF single R G k (g + 1) L' lf'
 left : lf' = packF single G k (g + 1) L'
 nonneg : 0 ≤ lf'
 len : L'.length = L.length
 rooms : ∀ r ∈ L', 0 ≤ r.1 ∧ r.1 ≤ 4000

theorem pick_iff (single : Bool) (G : List (Int × Int)) (k g : Nat) (L : List (Int × Bool)) (left : Int) (i : Nat) (hi : i < L.length) :
  pickAt single G k g L left i = true ↔ ¬ L[i].1 < gs G g ∧ 0 ≤ packF single G k (g + 1) (sitF L i (gs G g)) ∧ packF single G k (g + 1) (sitF L i (gs G g)) + gs G g * gv G g = left := by
 unfold pickAt
 have : L.getD i (0, false) = L[i] := by simp [hi]
 rw [this]
 simp only [Bool.and_eq_true, decide_eq_true_eq]
 constructor
 ·
  rintro ⟨a, b, c⟩
  exact ⟨by omega, b, c⟩
 ·
  rintro ⟨a, b, c⟩
  exact ⟨by omega, b, c⟩
section
variable {single : Bool} {R : List Int} {G : List (Int × Int)} {k g : Nat} {L : List (Int × Bool)} {lf : Int}
theorem SolStep.hit {i : Nat} (hi : i < L.length) (hr : ∀ r ∈ L, 0 ≤ r.1 ∧ r.1 ≤ 4000) (hs : 0 ≤ gs G g) (hp : pickAt single G k g L lf i = true) (hb : ∀ j, j < i → pickAt single G k g L lf j = false) :
  SolStep single R G k g L lf ((i : Int), ix R i - L[i].1) (sitF L i (gs G g)) (lf - gs G g * gv G g) := by
 obtain ⟨h1, h2, h3⟩ := (pick_iff single G k g L lf i hi).1 hp
 refine ⟨?_, by omega, by omega, sit_len _ _ _, sit_range hi hr hs h1⟩
 rw [solF, find_first hi hp hb]
 have : L.getD i (0, false) = L[i] := by simp [hi]
 dsimp only
 rw [this]
theorem SolStep.miss (hr : ∀ r ∈ L, 0 ≤ r.1 ∧ r.1 ≤ 4000) (hl : lf = packF single G (k + 1) g L) (h0 : 0 ≤ lf) (hb : ∀ j, j < L.length → pickAt single G k g L lf j = false) :
  SolStep single R G k g L lf (-1, 0) L lf := by
 refine ⟨?_, ?_, h0, rfl, hr⟩
 ·
  rw [solF, find_no hb]
 ·
  obtain ⟨_, _, s3⟩ := packF_spec single G k g L
  rcases s3 with e | ⟨q, hq, q1, q2, q3⟩
  ·
   omega
  ·
   have := hb q hq
   rw [(pick_iff single G k g L lf q hq).2 ⟨by omega, q2, by omega⟩] at this
   cases this
end
theorem vcap_mono (n : Nat) : ∀ k, vcap n k ≤ vcap n (k + 1)
 | 0 => by simp [vcap]
 | k + 1 => by
  have h2 := Nat.mul_le_mul_left (n + 1) (vcap_mono n k)
  show 1 + (n + 1) * vcap n k ≤ 1 + (n + 1) * vcap n (k + 1)
  omega
theorem vcap_le (n : Nat) {k m : Nat} (h : k ≤ m) : vcap n k ≤ vcap n m := by
 induction m with
 | zero =>
  have : k = 0 := by omega
  subst this
  exact Nat.le_refl _
 | succ m ih =>
  by_cases e : k = m + 1
  ·
   subst e
   exact Nat.le_refl _
  ·
   exact Nat.le_trans (ih (by omega)) (vcap_mono n m)
end Go.Proofs.YthabgljdndbphaaGreatDoor

namespace Go.Proofs.YthabgljdndbphaaGreatDoor
open Go.RowKit Go.IntWalk Go.Maps Go.WideMaps
set_option linter.unusedSimpArgs false
set_option linter.unusedVariables false

def SpotE : Enc (Int × Int) 2 := ⟨fun x => [.int .i64 x.1, .int .i64 x.2], fun _ => rfl, fun x v hv => by
 simp only [List.mem_cons, List.not_mem_nil, or_false] at hv
 rcases hv with rfl | rfl <;> rfl, by decide⟩
theorem info_spot : (Tryz.prog.info? 46).map (fun i => (i.zero, i.size, i.bytes)) = some (some (.agg #[.int .i64 0, .int .i64 0]), 2, 16) := by kernel_rfl
theorem recs_pairs {w : World} {sa : Option Addr} {n : Nat} {S : List (Int × Int)} (h : Recs SpotE w sa n S) : Pairs w sa n S :=
 ⟨h.1, fun k hk => by
  obtain ⟨b, o, e, c⟩ := h.2 k hk
  have c0 := c 0 (by omega)
  have c1 := c 1 (by omega)
  have hk2 : k < S.length := by rw [h.1]; exact hk
  rw [rc_eq _ _ hk2] at c0 c1
  refine ⟨b, o, e, ?_, ?_⟩
  ·
   have e1 : gs S k = S[k].1 := by unfold gs; simp [hk2]
   rw [e1]
   exact c0
  ·
   have e1 : gv S k = S[k].2 := by unfold gv; simp [hk2]
   rw [e1]
   exact c1⟩

/-! ### Frames by types -/
theorem tupd_own {w w' : World} {B k n : Nat} {T : TypeId} {v : Value} {xs : List Value} (h : w.ownsRow B T k v n xs) (hg : w.grownBy w' v.ownBlock) : TUpd (fun X => X = T) w w' :=
 ⟨hg.os, hg.tape, hg.output, hg.size, fun b o hb hS => by
  refine (hg.block b (lt_of_block hb) (fun e => ?_)).trans hb
  obtain ⟨cur, hc⟩ := own_type h e.symm
  rw [hc] at hb
  cases hb
  exact hS _ _ _ rfl rfl⟩
theorem tupd_set {w : World} {b j : Nat} {arr : Array Value} {T : TypeId} {x : Nat × Nat} (hb : w.heap[b]? = some (.cells arr T x)) (u : Value) : TUpd (fun X => X = T) w (w.setCell ⟨b, j, none⟩ u) :=
 ⟨rfl, rfl, rfl, by simp [World.setCell], fun c o hc hS => by
  refine (Below.heap_setCell _ _ _ _ (fun e => ?_)).trans hc
  dsimp only at e
  subst e
  rw [hb] at hc
  cases hc
  exact hS _ _ _ rfl rfl⟩
theorem TUpd.mapO {S : TypeId → Prop} {w w' : World} (h : TUpd S w w') {b : Nat} {es : Array MapEntry} {ck : Nat} (hb : w.heap[b]? = some (.map es ck)) : w'.heap[b]? = some (.map es ck) :=
 h.block b _ hb (fun _ _ _ e => by cases e)
theorem VEnv.tupd {V : VA} {w w' : World} {S : TypeId → Prop} (h : VEnv V w) (ht : TUpd S w w') (h1 : ¬ S 25) (h2 : ¬ S 102) (h3 : ¬ S 88) (hg : Pairs w' V.ga V.m V.G) (hk : PKit w') : VEnv V w' :=
 ⟨ht.keep h.prob h1, ht.keep h.known h2, ht.keep h.value h3, hg, hk, by
  obtain ⟨es, ck, e⟩ := h.map
  exact ⟨es, ck, ht.mapO e⟩⟩
theorem OwnRecs.tupd {α : Type} {k n B : Nat} {E : Enc α k} {S : TypeId → Prop} {w w' : World} {T : TypeId} {la : Option Addr} {xs : List α} (h : OwnRecs E w B T la n xs) (ht : TUpd S w w') (hS : ¬ S T) : OwnRecs E w' B T la n xs :=
 ⟨h.1, fun hn => by
  obtain ⟨g, e, hB, arr, hb, r⟩ := h.2 hn
  exact ⟨g, e, hB, arr, ht.keep hb hS, r⟩⟩
theorem OwnRecs.mupd {α : Type} {k n B M : Nat} {E : Enc α k} {w w' : World} {T : TypeId} {la : Option Addr} {xs : List α} (h : OwnRecs E w B T la n xs) (hu : MUpd M w w') : OwnRecs E w' B T la n xs :=
 ⟨h.1, fun hn => by
  obtain ⟨g, e, hB, arr, hb, r⟩ := h.2 hn
  exact ⟨g, e, hB, arr, hu.block hb, r⟩⟩
theorem row_mupd {B k n M : Nat} {w w' : World} {T : TypeId} {v : Value} {xs : List Value} (h : w.ownsRow B T k v n xs) (hu : MUpd M w w') : w'.ownsRow B T k v n xs :=
 row_of_heap h fun b hb => by
  obtain ⟨cur, hc⟩ := own_type h hb
  rw [hu.block hc, hc]

/-- What solution works on. -/
structure SolM (w0 w : World) (V : VA) (pB xr gx : Nat) (la : Option Addr) (L : List (Int × Bool)) (spv : Value) (S : List (Int × Int)) (xv : Int) (N : Nat) : Prop where
 below : Below w0.heap.size w0 w
 prob : w.heap[pB]? = some (.cells #[.slice V.ra V.rn V.rc, .slice V.ga V.m V.gc, .bool V.single] 25 (0, 0))
 env : VEnv V w
 memo : MemoAt w V.mb N V.single V.G
 runs : OwnRecs RunE w w0.heap.size 63 la L.length L
 pack : w.heap[gx]? = some (.cells #[spv, .int .i64 xv] 31 (0, 0))
 res : w.heap[xr]? = some (.cells #[.slice none 0 0, .int .i64 0] 31 (0, 0))
 spots : w.ownsRow w0.heap.size 46 2 spv S.length (flat SpotE S)
 new : w0.heap.size ≤ gx ∧ xr ≠ gx ∧ w0.heap.size ≤ V.mb ∧ w0.heap.size ≤ xr
section
variable {w0 w w' : World} {V : VA} {pB xr gx : Nat} {la la' : Option Addr} {L L' : List (Int × Bool)} {spv : Value} {S : List (Int × Int)} {xv : Int} {N N' : Nat}
theorem SolM.mupd (h : SolM w0 w V pB xr gx la L spv S xv N) (hu : MUpd V.mb w w') (hm : MemoAt w' V.mb N' V.single V.G) : SolM w0 w' V pB xr gx la L spv S xv N' :=
 ⟨h.below.grown hu.grown h.below.size (fun k e => by cases e; exact h.new.2.2.1), hu.block h.prob, h.env.upd hu, hm, h.runs.mupd hu, hu.block h.pack, hu.block h.res, row_mupd h.spots hu, h.new⟩
theorem SolM.down (h : SolM w0 w V pB xr gx la L spv S xv N) (hb : Below w.heap.size w w') : SolM w0 w' V pB xr gx la L spv S xv N :=
 h.mupd (MUpd.of_below hb h.env.map) (h.memo.down hb)
theorem SolM.more (h : SolM w0 w V pB xr gx la L spv S xv N) (hN : N ≤ N') : SolM w0 w V pB xr gx la L spv S xv N' :=
 ⟨h.below, h.prob, h.env, h.memo.more hN, h.runs, h.pack, h.res, h.spots, h.new⟩
theorem SolM.step (h : SolM w0 w V pB xr gx la L spv S xv N) (hr : OwnRecs RunE w w0.heap.size 63 la' L'.length L') : SolM w0 w V pB xr gx la' L' spv S xv N :=
 ⟨h.below, h.prob, h.env, h.memo, hr, h.pack, h.res, h.spots, h.new⟩
theorem SolM.gain (h : SolM w0 w V pB xr gx la L spv S xv N) (hG : Pairs w0 V.ga V.m V.G) (hk : PKit w0) (y : Int) : SolM w0 (w.setCell ⟨gx, 1, none⟩ (.int .i64 y)) V pB xr gx la L spv S y N := by
 have ht := tupd_set (j := 1) h.pack (.int .i64 y)
 have hb : Below w0.heap.size w0 (w.setCell ⟨gx, 1, none⟩ (.int .i64 y)) := h.below.setCell (by show _ ≤ gx; exact h.new.1) _
 refine ⟨hb, ht.keep h.prob (by decide), h.env.tupd ht (by decide) (by decide) (by decide) (hG.below hb) (hk.below hb), h.memo.heap ?_, h.runs.tupd ht (by decide), ?_, ?_, row_of_heap h.spots fun b hb => ?_, h.new⟩
 ·
  obtain ⟨es, ck, e⟩ := h.memo.blk
  rw [ht.mapO e, e]
 ·
  simp [World.setCell, Array.getElem?_modify, h.pack]
 ·
  rw [Below.heap_setCell _ _ _ _ h.new.2.1]
  exact h.res
 ·
  obtain ⟨cur, hc⟩ := own_type h.spots hb
  rw [ht.keep hc (by decide), hc]
theorem SolM.spot (h : SolM w0 w V pB xr gx la L spv S xv N) (hG : Pairs w0 V.ga V.m V.G) (hk : PKit w0) {v' : Value} {s : Int × Int} (ho : w'.ownsRow w0.heap.size 46 2 v' (S.length + 1) (flat SpotE (S ++ [s]))) (hg : w.grownBy w' spv.ownBlock) (w2 : World) (hw2 : w2 = w'.setCell ⟨gx, 0, none⟩ v') :
  SolM w0 w2 V pB xr gx la L v' (S ++ [s]) xv N := by
 subst hw2
 have ht := tupd_own h.spots hg
 have hb1 : Below w0.heap.size w0 w' := h.below.grown hg h.below.size (fun k hk => (h.spots.lt k hk).1)
 have hp1 := ht.keep h.pack (by decide)
 have ht2 := tupd_set (j := 0) hp1 v'
 have hb : Below w0.heap.size w0 (w'.setCell ⟨gx, 0, none⟩ v') := hb1.setCell (by show _ ≤ gx; exact h.new.1) _
 have htt := (ht.wide (T := fun X => X = 46 ∨ X = 31) (fun i e => Or.inl e)).trans (ht2.wide (fun i e => Or.inr e))
 refine ⟨hb, htt.keep h.prob (by decide), h.env.tupd htt (by decide) (by decide) (by decide) (hG.below hb) (hk.below hb), h.memo.heap ?_, h.runs.tupd htt (by decide), ?_, ?_, ?_, h.new⟩
 ·
  obtain ⟨es, ck, e⟩ := h.memo.blk
  rw [htt.mapO e, e]
 ·
  simp [World.setCell, Array.getElem?_modify, hp1]
 ·
  rw [Below.heap_setCell _ _ _ _ h.new.2.1]
  exact ht.keep h.res (by decide)
 ·
  rw [List.length_append]
  refine row_of_heap ho fun b hb => ?_
  obtain ⟨cur, hc⟩ := own_type ho hb
  rw [ht2.keep hc (by decide), hc]
theorem SolM.spotVar (h : SolM w0 w V pB xr gx la L spv S xv N) (hG : Pairs w0 V.ga V.m V.G) (hk : PKit w0) {gs0 : Nat} {A B : Array Value} (hs : w.heap[gs0]? = some (.cells A 46 (0, 0))) (h0 : w0.heap.size ≤ gs0) (hne : some gs0 ≠ spv.ownBlock) : SolM w0 (w.setRow gs0 B) V pB xr gx la L spv S xv N := by
 have hblk : ∀ b, b ≠ gs0 → (w.setRow gs0 B).heap[b]? = w.heap[b]? := fun b hb => by
  simp [World.setRow, Array.getElem?_modify, Ne.symm hb]
 have hother : ∀ (b : Nat) (o : Obj), w.heap[b]? = some o → (∀ arr x, o ≠ .cells arr 46 x) → (w.setRow gs0 B).heap[b]? = some o := fun b o hb ho => by
  rw [hblk b (fun e => by subst e; rw [hs] at hb; cases hb; exact ho _ _ rfl)]
  exact hb
 have hb : Below w0.heap.size w0 (w.setRow gs0 B) := below_setRow h.below h0 B
 refine ⟨hb, hother _ _ h.prob (by intro _ _ e; cases e), ⟨hother _ _ h.env.prob (by intro _ _ e; cases e), hother _ _ h.env.known (by intro _ _ e; cases e), hother _ _ h.env.value (by intro _ _ e; cases e), hG.below hb, hk.below hb, ?_⟩, h.memo.heap ?_, ⟨h.runs.1, fun hn => ?_⟩, hother _ _ h.pack (by intro _ _ e; cases e), hother _ _ h.res (by intro _ _ e; cases e), row_of_heap h.spots fun bb hbb => ?_, h.new⟩
 ·
  obtain ⟨es, ck, e⟩ := h.env.map
  exact ⟨es, ck, hother _ _ e (by intro _ _ e; cases e)⟩
 ·
  obtain ⟨es, ck, e⟩ := h.memo.blk
  rw [hother _ _ e (by intro _ _ e; cases e), e]
 ·
  obtain ⟨g, e, hB, arr, hb, r⟩ := h.runs.2 hn
  exact ⟨g, e, hB, arr, hother _ _ hb (by intro _ _ e; cases e), r⟩
 ·
  exact hblk bb (fun e => by subst e; exact hne hbb.symm)
end
end Go.Proofs.YthabgljdndbphaaGreatDoor

namespace Go.Proofs.YthabgljdndbphaaGreatDoor
open Go.RowKit Go.IntWalk Go.Maps Go.WideMaps
set_option linter.unusedSimpArgs false
set_option linter.unusedVariables false
set_option maxRecDepth 100000 in
set_option maxHeartbeats 4000000 in
theorem values_any (w : World) (ra ga : Option Addr) (n c m d : Nat) (single : Bool) (G : List (Int × Int)) (hG : Pairs w ga m G) (hk : PKit w) :
  Calls Tryz.prog 43 #[.agg #[.slice ra n c, .slice ga m d, .bool single]] w fun e w' => ∃ pb kb vb mb, e = .returned (.func (.func 57) #[] #[.pointer (some ⟨pb, 0, none⟩), .pointer (some ⟨kb, 0, none⟩), .pointer (some ⟨vb, 0, none⟩)]) ∧
   VEnv ⟨pb, kb, vb, mb, ra, ga, n, c, m, d, single, G⟩ w' ∧ MemoAt w' mb 0 single G ∧ Below w.heap.size w w' ∧ w.heap.size ≤ mb := by
 have HG := Lib.hid hG
 have HK := Lib.hid hk
 clear hG hk
 refine enter_fr (N := 8) [.agg #[.slice ra n c, .slice ga m d, .bool single]] (Tryz.func43) rfl Tryz.ntmps43 (by rfl) (fun a hF => ?_);replace hF := hF.kp [0] rfl;refine wp_seq_k (fun K hK => ?_);refine region_seq (l := [0, 1]) (by kernel_rfl) ?_;refine seq_one ?_;revert hF;refine qe1 fun a hF => ?_
 have HP1 : Hid ((w.alloc (.cells #[.slice ra n c, .slice ga m d, .bool single] 25)).heap[w.heap.size]? = some (.cells #[.slice ra n c, .slice ga m d, .bool single] 25 (0, 0))) := heap_new _ _
 have HB1 : Hid (Below w.heap.size w (w.alloc (.cells #[.slice ra n c, .slice ga m d, .bool single] 25))) := Joins.below_alloc1 w _
 revert hF;refine zre 1 [2] [1] fun a hF => ?_;refine hK _ _ ?_;clear hK
 generalize w.alloc (.cells #[.slice ra n c, .slice ga m d, .bool single] 25) = w1 at *
 obtain ⟨pb, hpb⟩ : ∃ x, x = w.heap.size := ⟨_, rfl⟩
 rw [← hpb] at hF HP1
 clear hpb
 refine wp_seq_k (fun K hK => ?_)
 have hmm := @run_makeMap Tryz.prog
 refine region_seq (l := [0, 1, 2]) (by kernel_rfl) ?_;refine seq_one ?_;revert hF;refine qe0 fun a hF => ?_
 have HM2 := Lib.hid (MemoAt.made w1 single G)
 have HBa := Joins.below_alloc1 w1 (.map #[] 0)
 have HP2 : Hid ((w1.alloc (.map #[] 0)).heap[pb]? = some (.cells #[.slice ra n c, .slice ga m d, .bool single] 25 (0, 0))) := (HBa.block pb (lt_of_block HP1.out)).trans HP1.out
 have HB2 : Hid (Below w.heap.size w (w1.alloc (.map #[] 0))) := HB1.out.trans (HBa.mono HB1.out.size)
 have HMB : Hid (w.heap.size ≤ w1.heap.size) := HB1.out.size
 clear HBa HP1 HB1
 generalize w1.alloc (.map #[] 0) = w2 at *
 generalize w1.heap.size = mb at *
 refine seq_one ?_;revert hF;refine qe0 fun a hF => ?_;refine seq_one ?_;revert hF;refine qu2 fun a hF => ?_;refine seq_end ?_;replace hF := hF.kp [1, 3] rfl;refine hK _ _ ?_;clear hK
 have HBa := Joins.below_alloc1 w2 (.cells #[.map (some mb)] 102)
 have HP3 : Hid ((w2.alloc (.cells #[.map (some mb)] 102)).heap[pb]? = some (.cells #[.slice ra n c, .slice ga m d, .bool single] 25 (0, 0))) := (HBa.block pb (lt_of_block HP2.out)).trans HP2.out
 have HB3 : Hid (Below w.heap.size w (w2.alloc (.cells #[.map (some mb)] 102))) := HB2.out.trans (HBa.mono HB2.out.size)
 have HM3 := Lib.hid (HM2.out.down HBa)
 have HK3 : Hid ((w2.alloc (.cells #[.map (some mb)] 102)).heap[w2.heap.size]? = some (.cells #[.map (some mb)] 102 (0, 0))) := heap_new _ _
 clear HBa HP2 HB2 HM2
 generalize w2.alloc (.cells #[.map (some mb)] 102) = w3 at *
 generalize w2.heap.size = kb at *
 refine wp_seq_k (fun K hK => ?_);refine region_seq (l := [0]) (by kernel_rfl) ?_;refine seq_one ?_;revert hF;refine qe0 fun a hF => ?_;refine seq_end ?_;replace hF := hF.kp [1, 3, 4] rfl;refine hK _ _ ?_;clear hK;refine wp_seq_k (fun K hK => ?_);revert hF;refine zrp [6] [1] fun a hF => ?_;refine seq_one ?_;revert hF;refine qu2 fun a hF => ?_;refine seq_end ?_;replace hF := hF.kp [4] rfl;refine hK _ _ ?_;clear hK
 have HBa := Joins.below_alloc1 w3 (.cells #[.func (.func 57) #[] #[.pointer (some ⟨pb, 0, none⟩), .pointer (some ⟨kb, 0, none⟩), .pointer (some ⟨w3.heap.size, 0, none⟩)]] 88)
 have HV4 : Hid ((w3.alloc (.cells #[.func (.func 57) #[] #[.pointer (some ⟨pb, 0, none⟩), .pointer (some ⟨kb, 0, none⟩), .pointer (some ⟨w3.heap.size, 0, none⟩)]] 88)).heap[w3.heap.size]? = some (.cells #[.func (.func 57) #[] #[.pointer (some ⟨pb, 0, none⟩), .pointer (some ⟨kb, 0, none⟩), .pointer (some ⟨w3.heap.size, 0, none⟩)]] 88 (0, 0))) := heap_new _ _
 have HP4 : Hid ((w3.alloc (.cells #[.func (.func 57) #[] #[.pointer (some ⟨pb, 0, none⟩), .pointer (some ⟨kb, 0, none⟩), .pointer (some ⟨w3.heap.size, 0, none⟩)]] 88)).heap[pb]? = some (.cells #[.slice ra n c, .slice ga m d, .bool single] 25 (0, 0))) := (HBa.block pb (lt_of_block HP3.out)).trans HP3.out
 have HK4 : Hid ((w3.alloc (.cells #[.func (.func 57) #[] #[.pointer (some ⟨pb, 0, none⟩), .pointer (some ⟨kb, 0, none⟩), .pointer (some ⟨w3.heap.size, 0, none⟩)]] 88)).heap[kb]? = some (.cells #[.map (some mb)] 102 (0, 0))) := (HBa.block kb (lt_of_block HK3.out)).trans HK3.out
 have HB4 : Hid (Below w.heap.size w (w3.alloc (.cells #[.func (.func 57) #[] #[.pointer (some ⟨pb, 0, none⟩), .pointer (some ⟨kb, 0, none⟩), .pointer (some ⟨w3.heap.size, 0, none⟩)]] 88))) := HB3.out.trans (HBa.mono HB3.out.size)
 have HM4 := Lib.hid (HM3.out.down HBa)
 clear HBa HP3 HK3 HB3 HM3
 generalize w3.alloc (.cells #[.func (.func 57) #[] #[.pointer (some ⟨pb, 0, none⟩), .pointer (some ⟨kb, 0, none⟩), .pointer (some ⟨w3.heap.size, 0, none⟩)]] 88) = w4 at *
 generalize w3.heap.size = vb at *
 have q0 := boxed_cell (j := 0) HV4.out rfl
 revert hF;refine zrs [4, 2] [2] fun a hF => ?_;refine wp_ret ?_;(try simp only [then_ret, block_ret, goto_ret]);revert hF;refine zq ?_
 exact ⟨pb, kb, vb, mb, rfl, ⟨HP4.out, HK4.out, HV4.out, HG.out.below HB4.out, HK.out.below HB4.out, HM4.out.blk⟩, HM4.out, HB4.out, HMB.out⟩
end Go.Proofs.YthabgljdndbphaaGreatDoor
