/- hall: a row of a plan in memory of its own gets other marks: memory, and what the plan is then. -/
import Derived.Test.YtmcdhggnpfhlmaaQHCB25
import Derived.Test.YtmcdhggnpfhlmaaQHGA06
import Derived.Test.YtmcdhggnpfhlmaaQHGA09

namespace Go.Proofs.Ytmcdhggnpfhlmaa
open Go.RowKit Go.IntWalk
set_option linter.unusedSimpArgs false
set_option linter.unusedVariables false

def putB (k : Nat) (r : RowR) (b : BlkR) : BlkR := { b with rows := b.rows.set k r }
def putL (i : Nat) (b2 : BlkR) (l : LevR) : LevR := { l with blocks := l.blocks.set i b2 }
def putP (n : Nat) (l2 : LevR) (h : HallR) : HallR := { h with levels := h.levels.set n l2 }

theorem set_mem {α : Type} {xs : List α} {n : Nat} {y z : α} (h : z ∈ xs.set n y) : z = y ∨ ∃ (j : Nat) (hj : j < xs.length), j ≠ n ∧ z = xs[j] := by
  obtain ⟨j, hj, rfl⟩ := List.mem_iff_getElem.1 h
  rw [List.length_set] at hj
  rw [List.getElem_set]
  by_cases e : n = j
  · rw [if_pos e]
    exact Or.inl rfl
  · rw [if_neg e]
    exact Or.inr ⟨j, hj, fun h => e h.symm, rfl⟩
theorem set_same {α : Type} {k : Nat} (E : Enc α k) {xs : List α} {n : Nat} (hn : n < xs.length) {y : α} (h : E.cells y = E.cells xs[n]) : flat E (xs.set n y) = flat E xs := by
  unfold flat
  have : (xs.set n y).map E.cells = xs.map E.cells := by
    apply List.ext_getElem
    · simp
    · intro i h1 h2
      simp only [List.getElem_map, List.getElem_set]
      split
      · rename_i e
        subst e
        exact h
      · rfl
  rw [List.flatMap_def, List.flatMap_def, this]

/-- The blocks of a plan lie apart. -/
theorem apt_lev {ls : List LevR} (h : Apt (ls.flatMap (·.blocks))) : (∀ l ∈ ls, Apt l.blocks) ∧ ∀ (n m : Nat) (hn : n < ls.length) (hm : m < ls.length), n ≠ m → ∀ a ∈ ls[n].blocks, ∀ b ∈ ls[m].blocks, ∀ g, rowsAt a = some g → rowsAt b ≠ some g := by
  unfold Apt at h
  rw [List.pairwise_flatMap] at h
  refine ⟨h.1, fun n m hn hm hne a ha b hb g e e2 => ?_⟩
  have hp := List.pairwise_iff_getElem.1 h.2
  rcases Nat.lt_or_ge n m with hlt | hge
  · exact hp n m hn hm hlt a ha b hb g e e2
  · exact hp m n hm hn (by omega) b hb a ha g e2 e
theorem apt_blk {bs : List BlkR} (h : Apt bs) {i j : Nat} (hi : i < bs.length) (hj : j < bs.length) (hne : i ≠ j) : ∀ g, rowsAt bs[i] = some g → rowsAt bs[j] ≠ some g := by
  have hp := List.pairwise_iff_getElem.1 h
  intro g e e2
  rcases Nat.lt_or_ge i j with hlt | hge
  · exact hp i j hi hj hlt g e e2
  · exact hp j i hj hi (by omega) g e2 e

section
variable {w0 w x : World} {h : HallR} {n i k : Nat}
/-- The plan behind the store. -/
theorem gap_in (hN : NHall w0 w h) (hb : Below w.heap.size w x) (hn : n < h.levels.length) (hi : i < h.levels[n].blocks.length) (hk : k < h.levels[n].blocks[i].rows.length) {r2 : RowR}
    (hc : r2 = { h.levels[n].blocks[i].rows[k] with ma := r2.ma, mn := r2.mn, mc := r2.mc, marks := r2.marks }) (hmn : r2.mn ≤ 1000) {g : Nat} (hg : h.levels[n].blocks[i].ra = some ⟨g, 0, none⟩)
    (hr2 : r2.In (x.setCell ⟨g, k * 8 + 6, none⟩ (.slice r2.ma r2.mn r2.mc))) :
    Below w0.heap.size w0 (x.setCell ⟨g, k * 8 + 6, none⟩ (.slice r2.ma r2.mn r2.mc)) ∧
    (putP n (putL i (putB k r2 h.levels[n].blocks[i]) h.levels[n]) h).In (x.setCell ⟨g, k * 8 + 6, none⟩ (.slice r2.ma r2.mn r2.mc)) ∧
    (putP n (putL i (putB k r2 h.levels[n].blocks[i]) h.levels[n]) h).Sm ∧ ∀ l ∈ (putP n (putL i (putB k r2 h.levels[n].blocks[i]) h.levels[n]) h).levels, l.an ≤ l.ac := by
  have hlm : h.levels[n] ∈ h.levels := List.getElem_mem hn
  have hbm : h.levels[n].blocks[i] ∈ h.levels[n].blocks := List.getElem_mem hi
  have hL := hN.levs _ hlm
  have hB := hL.bk _ hbm
  have hat : rowsAt h.levels[n].blocks[i] = some g := by
    unfold rowsAt
    rw [hg]
    rfl
  have hgr := hB.at hat
  have hbx : Below w0.heap.size w0 x := hN.below.trans (hb.mono hN.below.size)
  have hBx := hB.down hb
  have hgx : ∃ A, x.heap[g]? = some (.cells A 54 (0, 0)) := by
    obtain ⟨cur, hh⟩ := own_type hBx.own (r := g) (by rw [hg]; rfl)
    exact ⟨cur, hh⟩
  obtain ⟨A, hA⟩ := hgx
  generalize hV : (Value.slice r2.ma r2.mn r2.mc) = V at *
  have hbw : Below w0.heap.size w0 (x.setCell ⟨g, k * 8 + 6, none⟩ V) := hbx.trans (below_set hgr.1)
  have K : ∀ (b : Nat) (A : Array Value) (T : TypeId) (z : Nat × Nat), T ≠ 54 → w.heap[b]? = some (.cells A T z) → (x.setCell ⟨g, k * 8 + 6, none⟩ V).heap[b]? = w.heap[b]? := fun b A' T z hT e => by
    have h1 := below_keep hb b A' T z e
    exact (set_other (type_ne (h1.trans e) hA hT)).trans h1
  obtain ⟨hap1, hap2⟩ := apt_lev hN.apt
  -- another block
  have KB : ∀ b, NBlk w0 w b → (∀ g', rowsAt b = some g' → g' ≠ g) → b.In (x.setCell ⟨g, k * 8 + 6, none⟩ V) := fun b hnb hne => by
    have ho : (x.setCell ⟨g, k * 8 + 6, none⟩ V).ownsRow w0.heap.size 54 8 (.slice b.ra b.rn b.rc) b.rn (flat RowE b.rows) := row_of_heap hnb.own fun b' hb' => by
      have h1 := hb.block b' (hnb.own.lt b' hb').2
      exact (set_other (hne b' hb')).trans h1
    exact NBlk.in ⟨ho, hnb.rows, hnb.rn⟩ hbw
  -- the block itself
  have hown2 : (x.setCell ⟨g, k * 8 + 6, none⟩ V).ownsRow w0.heap.size 54 8 (.slice h.levels[n].blocks[i].ra h.levels[n].blocks[i].rn h.levels[n].blocks[i].rc) h.levels[n].blocks[i].rn (flat RowE (h.levels[n].blocks[i].rows.set k r2)) := by
    have ho := hBx.own
    rw [hg] at ho ⊢
    refine own_set ho k 6 r2 V hk (by omega) fun q hq => ?_
    rw [rc_eq _ _ hk, hc]
    rw [← hV]
    match q, hq with
    | 0, _ | 1, _ | 2, _ | 3, _ | 4, _ | 5, _ | 6, _ | 7, _ => rfl
  have hself : (putB k r2 h.levels[n].blocks[i]).In (x.setCell ⟨g, k * 8 + 6, none⟩ V) := by
    obtain ⟨la, c, e, hr⟩ := OwnRecs.of_row hown2
    cases e
    refine ⟨hr.recs, by show h.levels[n].blocks[i].rn ≤ _; have := hB.rn; omega, fun r hr => ?_⟩
    rcases set_mem hr with rfl | ⟨j, hj, _, rfl⟩
    · exact hr2
    · exact (hB.rows _ (List.getElem_mem hj)).1.below hbw
  have hlev : (putL i (putB k r2 h.levels[n].blocks[i]) h.levels[n]).In (x.setCell ⟨g, k * 8 + 6, none⟩ V) := by
    have ho : (x.setCell ⟨g, k * 8 + 6, none⟩ V).ownsRow w0.heap.size 57 3 (.slice h.levels[n].ba h.levels[n].bn h.levels[n].bc) h.levels[n].bn (flat BlkE (h.levels[n].blocks.set i (putB k r2 h.levels[n].blocks[i]))) := by
      rw [set_same BlkE hi (y := putB k r2 h.levels[n].blocks[i]) rfl]
      exact own_keep hL.bl fun b A z e => K b A _ z (by decide) e
    have ha : (x.setCell ⟨g, k * 8 + 6, none⟩ V).ownsRow w0.heap.size 48 7 (.slice h.levels[n].aa h.levels[n].an h.levels[n].ac) h.levels[n].an (flat AreaE h.levels[n].areas) := own_keep hL.ar fun b A z e => K b A _ z (by decide) e
    obtain ⟨la, c, e, hr⟩ := OwnRecs.of_row ho
    cases e
    obtain ⟨la, c, e, hr3⟩ := OwnRecs.of_row ha
    cases e
    have h1 := hL.sm.b
    have h2 := hL.sm.rest
    obtain ⟨q1, q2, q3, q4, q5, q6⟩ := hL.rest
    refine ⟨hr.recs, by show h.levels[n].bn ≤ _; omega, fun b hb2 => ?_, hr3.recs, by show h.levels[n].an ≤ _; omega, q1.below hbw, by show h.levels[n].sn ≤ _; omega, q2.below hbw, by show h.levels[n].pn ≤ _; omega, q3.below hbw, by show h.levels[n].dn ≤ _; omega, q4, q5, q6⟩
    rcases set_mem hb2 with rfl | ⟨j, hj, hne, rfl⟩
    · exact hself
    · exact KB _ (hL.bk _ (List.getElem_mem hj)) fun g' e e2 => apt_blk (hap1 _ hlm) hi hj (fun e => hne e.symm) g hat (by rw [← e2]; exact e)
  have hNL : ∀ l, NLev w0 w l → (∀ b ∈ l.blocks, ∀ g', rowsAt b = some g' → g' ≠ g) → l.In (x.setCell ⟨g, k * 8 + 6, none⟩ V) := fun l hl hne => by
    have ho : (x.setCell ⟨g, k * 8 + 6, none⟩ V).ownsRow w0.heap.size 57 3 (.slice l.ba l.bn l.bc) l.bn (flat BlkE l.blocks) := own_keep hl.bl fun b A z e => K b A _ z (by decide) e
    have ha : (x.setCell ⟨g, k * 8 + 6, none⟩ V).ownsRow w0.heap.size 48 7 (.slice l.aa l.an l.ac) l.an (flat AreaE l.areas) := own_keep hl.ar fun b A z e => K b A _ z (by decide) e
    obtain ⟨la, c, e, hr⟩ := OwnRecs.of_row ho
    cases e
    obtain ⟨la, c, e, hr3⟩ := OwnRecs.of_row ha
    cases e
    have h1 := hl.sm.b
    have h2 := hl.sm.rest
    obtain ⟨q1, q2, q3, q4, q5, q6⟩ := hl.rest
    exact ⟨hr.recs, by omega, fun b hb2 => KB b (hl.bk b hb2) (hne b hb2), hr3.recs, by omega, q1.below hbw, by omega, q2.below hbw, by omega, q3.below hbw, by omega, q4, q5, q6⟩
  have hlv : (x.setCell ⟨g, k * 8 + 6, none⟩ V).ownsRow w0.heap.size 43 8 (.slice h.la h.ln h.lc) h.ln (flat LevE (h.levels.set n (putL i (putB k r2 h.levels[n].blocks[i]) h.levels[n]))) := by
    rw [set_same LevE hn (y := putL i (putB k r2 h.levels[n].blocks[i]) h.levels[n]) rfl]
    exact own_keep hN.lv fun b A z e => K b A _ z (by decide) e
  obtain ⟨la, c, e, hr⟩ := OwnRecs.of_row hlv
  cases e
  refine ⟨hbw, ⟨hr.recs, by show h.ln ≤ _; have := hN.ln; omega, fun l hl => ?_⟩, ⟨hN.ln, fun l hl => ?_, fun l hl b hb2 => ?_, fun l hl b hb2 r hr => ?_⟩, fun l hl => ?_⟩
  · rcases set_mem hl with rfl | ⟨m, hm, hne, rfl⟩
    · exact hlev
    · exact hNL _ (hN.levs _ (List.getElem_mem hm)) fun b hb2 g' e e2 => hap2 n m hn hm (fun e => hne e.symm) _ hbm b hb2 g hat (by rw [← e2]; exact e)
  · rcases set_mem hl with rfl | ⟨m, hm, hne, rfl⟩
    · exact ⟨hL.sm.b, hL.sm.rest⟩
    · exact (hN.levs _ (List.getElem_mem hm)).sm
  · rcases set_mem hl with rfl | ⟨m, hm, hne, rfl⟩
    · rcases set_mem hb2 with rfl | ⟨j, hj, _, rfl⟩
      · exact hB.rn
      · exact (hL.bk _ (List.getElem_mem hj)).rn
    · exact ((hN.levs _ (List.getElem_mem hm)).bk b hb2).rn
  · rcases set_mem hl with rfl | ⟨m, hm, hne, rfl⟩
    · rcases set_mem hb2 with rfl | ⟨j, hj, _, rfl⟩
      · rcases set_mem hr with rfl | ⟨q, hq, _, rfl⟩
        · exact hmn
        · exact (hB.rows _ (List.getElem_mem hq)).2
      · exact ((hL.bk _ (List.getElem_mem hj)).rows r hr).2
    · exact (((hN.levs _ (List.getElem_mem hm)).bk b hb2).rows r hr).2
  · rcases set_mem hl with rfl | ⟨m, hm, hne, rfl⟩
    · exact hL.ac
    · exact (hN.levs _ (List.getElem_mem hm)).ac
end

/-- What the plan is then. -/
theorem gap_eq {h h' : HallR} {n i k : Nat} {s : Int} (e : mH [] h' = mH [] h) (hn : n < h'.levels.length) (hi : i < h'.levels[n].blocks.length) (hk : k < h'.levels[n].blocks[i].rows.length)
    (hn2 : n < h.levels.length) (hi2 : i < h.levels[n].blocks.length) (hk2 : k < h.levels[n].blocks[i].rows.length) {r2 : RowR} (hc : r2 = { h'.levels[n].blocks[i].rows[k] with ma := r2.ma, mn := r2.mn, mc := r2.mc, marks := r2.marks })
    (hm : r2.marks = h.levels[n].blocks[i].rows[k].marks ++ [⟨1, s, 0⟩]) : mH [] (putP n (putL i (putB k r2 h'.levels[n].blocks[i]) h'.levels[n]) h') = mH [] (gapH n i k s h) := by
  have e1 : h'.levels.map (mL []) = h.levels.map (mL []) := congrArg HallR.levels e
  have e00 : (mH [] h').stage = (mH [] h).stage := congrArg HallR.stage e
  have e0 : h'.stage = h.stage := e00
  have e2 : mL [] h'.levels[n] = mL [] h.levels[n] := by
    have := congrArg (fun l => l[n]?) e1
    simpa [hn, hn2] using this
  have e3 : h'.levels[n].blocks.map (mB []) = h.levels[n].blocks.map (mB []) := congrArg LevR.blocks e2
  have e4 : mB [] h'.levels[n].blocks[i] = mB [] h.levels[n].blocks[i] := by
    have := congrArg (fun l => l[i]?) e3
    simpa [hi, hi2] using this
  have e5 : h'.levels[n].blocks[i].rows.map (mR []) = h.levels[n].blocks[i].rows.map (mR []) := congrArg BlkR.rows e4
  have e6 : mR [] h'.levels[n].blocks[i].rows[k] = mR [] h.levels[n].blocks[i].rows[k] := by
    have := congrArg (fun l => l[k]?) e5
    simpa [hk, hk2] using this
  have r : mR [] r2 = mR [] (gapR s h.levels[n].blocks[i].rows[k]) := by
    have q1 : mR [] r2 = { mR [] h'.levels[n].blocks[i].rows[k] with marks := r2.marks } := by rw [hc]; rfl
    rw [q1, e6, hm]
    rfl
  have b : mB [] (putB k r2 h'.levels[n].blocks[i]) = mB [] (gapB k s h.levels[n].blocks[i]) := by
    have q1 : mB [] (putB k r2 h'.levels[n].blocks[i]) = { mB [] h'.levels[n].blocks[i] with rows := (h'.levels[n].blocks[i].rows.map (mR [])).set k (mR [] r2) } := by
      unfold mB putB
      rw [List.map_set]
    have q2 : mB [] (gapB k s h.levels[n].blocks[i]) = { mB [] h.levels[n].blocks[i] with rows := (h.levels[n].blocks[i].rows.map (mR [])).set k (mR [] (gapR s h.levels[n].blocks[i].rows[k])) } := by
      unfold mB gapB
      rw [modS_set _ _ _ hk2, List.map_set]
    rw [q1, q2, e4, e5, r]
  have l : mL [] (putL i (putB k r2 h'.levels[n].blocks[i]) h'.levels[n]) = mL [] (gapL i k s h.levels[n]) := by
    have q1 : mL [] (putL i (putB k r2 h'.levels[n].blocks[i]) h'.levels[n]) = { mL [] h'.levels[n] with blocks := (h'.levels[n].blocks.map (mB [])).set i (mB [] (putB k r2 h'.levels[n].blocks[i])) } := by
      unfold mL putL
      rw [List.map_set]
    have q2 : mL [] (gapL i k s h.levels[n]) = { mL [] h.levels[n] with blocks := (h.levels[n].blocks.map (mB [])).set i (mB [] (gapB k s h.levels[n].blocks[i])) } := by
      unfold mL gapL
      rw [modS_set _ _ _ hi2, List.map_set]
    rw [q1, q2, e2, e3, b]
  have q1 : mH [] (putP n (putL i (putB k r2 h'.levels[n].blocks[i]) h'.levels[n]) h') = ⟨[], h'.stage, none, 0, 0, (h'.levels.map (mL [])).set n (mL [] (putL i (putB k r2 h'.levels[n].blocks[i]) h'.levels[n]))⟩ := by
    unfold mH putP
    rw [List.map_set]
  have q2 : mH [] (gapH n i k s h) = ⟨[], h.stage, none, 0, 0, (h.levels.map (mL [])).set n (mL [] (gapL i k s h.levels[n]))⟩ := by
    unfold mH gapH
    rw [modS_set _ _ _ hn2, List.map_set]
  rw [q1, q2, e0, e1, l]
end Go.Proofs.Ytmcdhggnpfhlmaa
