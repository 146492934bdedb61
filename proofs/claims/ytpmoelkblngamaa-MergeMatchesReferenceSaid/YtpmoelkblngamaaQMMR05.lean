/- merge: lies: plain. -/
import Derived.Test.YtpmoelkblngamaaQMMR04

namespace Go.Proofs.Ytpmoelkblngamaa

theorem max_num : ∀ {l : List Scn}, l ≠ [] → ∃ u ∈ l, ∀ v ∈ l, v.number ≤ u.number := by
  intro l
  induction l with
  | nil => intro h; exact absurd rfl h
  | cons a l ih =>
    intro _
    by_cases hl : l = []
    · subst hl
      exact ⟨a, List.mem_cons_self .., fun v hv => by rw [List.mem_singleton.mp hv]; exact Int.le_refl _⟩
    · obtain ⟨u, hu, hm⟩ := ih hl
      by_cases h : a.number ≤ u.number
      · refine ⟨u, List.mem_cons_of_mem _ hu, fun v hv => ?_⟩
        rcases List.mem_cons.mp hv with e | hv
        · rw [e]; exact h
        · exact hm v hv
      · refine ⟨a, List.mem_cons_self .., fun v hv => ?_⟩
        rcases List.mem_cons.mp hv with e | hv
        · rw [e]; exact Int.le_refl _
        · have := hm v hv; omega

/-- A number that is missing below another one. -/
theorem gap_bl {gone : List GoneT} {st : Int} {Y : List Scn} {g n : Int} {v : Scn} (hv : v ∈ Y) (hg : v.gate = g) (hn : 1 ≤ n ∧ n < v.number) (hm : ∀ t ∈ Y, t.gate = g → t.number ≤ 4000) (hno : ∀ t ∈ Y, t.gate = g → t.number ≠ n) :
    ∃ b, IsBl gone st Y b ∧ b.kind = 3 ∧ b.gate = g ∧ b.number = n := by
  have hvg : v ∈ gateL Y g := gate_mem.mpr ⟨hv, hg⟩
  obtain ⟨u, hu, hmax⟩ := max_num (l := gateL Y g) (fun e => by rw [e] at hvg; cases hvg)
  have h1 := hmax v hvg
  have hu' := gate_mem.mp hu
  refine ⟨gapB u.gate n u.number, Or.inl ⟨g, Or.inr (Or.inr ⟨u, n, hu, hmax, hm u hu'.1 hu'.2, hn.1, by omega, ?_, rfl⟩)⟩, rfl, hu'.2, rfl⟩
  rw [seen_not]
  intro t ht
  exact hno t (gate_mem.mp ht).1 (gate_mem.mp ht).2

/-- Two scans with one number. -/
theorem fork_bl {gone : List GoneT} {st : Int} {Y : List Scn} {g n : Int} {s t : Scn} (hs : s ∈ Y) (ht : t ∈ Y) (hne : s ≠ t) (h1 : s.gate = g) (h2 : t.gate = g) (h3 : s.number = n) (h4 : t.number = n) :
    ∃ b, IsBl gone st Y b ∧ b.kind = 2 ∧ b.gate = g ∧ b.number = n := by
  have hs' : s ∈ gateL Y g := gate_mem.mpr ⟨hs, h1⟩
  have ht' : t ∈ gateL Y g := gate_mem.mpr ⟨ht, h2⟩
  obtain ⟨p, q, e⟩ := List.append_of_mem hs'
  rw [e] at ht'
  rcases List.mem_append.mp ht' with hh | hh
  · exact ⟨forkB s, Or.inl ⟨g, Or.inl ⟨p, s, q, e, seen_iff.mpr ⟨t, hh, by rw [h3, h4]⟩, rfl⟩⟩, rfl, h1, h3⟩
  · rcases List.mem_cons.mp hh with hh | hh
    · exact absurd hh.symm hne
    · obtain ⟨p2, q2, e2⟩ := List.append_of_mem hh
      exact ⟨forkB t, Or.inl ⟨g, Or.inl ⟨p ++ s :: p2, t, q2, by rw [e, e2]; simp, seen_iff.mpr ⟨s, by simp, by rw [h3, h4]⟩, rfl⟩⟩, rfl, h2, h4⟩

/-- A scan that is earlier than the one with the number before. -/
theorem order_bl {gone : List GoneT} {st : Int} {Y : List Scn} {g : Int} {s t : Scn} (hY : Y.Nodup) (hs : s ∈ Y) (ht : t ∈ Y) (h1 : s.gate = g) (h2 : t.gate = g) (hu : ∀ a ∈ Y, ∀ b ∈ Y, a.gate = g → b.gate = g → a.number = b.number → a = b)
    (hn : t.number + 1 = s.number) (htm : s.time < t.time) : ∃ b, IsBl gone st Y b ∧ b.kind = 3 ∧ b.gate = g ∧ b.number = s.number := by
  have hnd : ((gateL Y g).map (·.number)).Nodup := by
    rw [List.nodup_iff_pairwise_ne, List.pairwise_map]
    have h0 : (gateL Y g).Pairwise (· ≠ ·) := List.Pairwise.sublist List.filter_sublist hY
    refine h0.imp_of_mem fun ha hb hab e => ?_
    have ha := gate_mem.mp ha
    have hb := gate_mem.mp hb
    exact hab (hu _ ha.1 _ hb.1 ha.2 hb.2 e)
  refine ⟨orderB s t, Or.inl ⟨g, Or.inr (Or.inl ⟨s, t, ?_, ?_, by omega, fun u _ => by omega, htm, rfl⟩)⟩, rfl, h1, rfl⟩
  · rw [first_all hnd]; exact gate_mem.mpr ⟨hs, h1⟩
  · rw [first_all hnd]; exact gate_mem.mpr ⟨ht, h2⟩

section
variable {h : Hon} (hi : HonInv h)
include hi

theorem hon_nodup : h.out.Nodup := strict_nodup KS (hon_strict hi)

theorem hon_unique {a b : Scn} (ha : a ∈ h.out) (hb : b ∈ h.out) (hg : a.gate = b.gate) (hn : a.number = b.number) : a = b := by
  rcases pw_cases (hon_gate_pw hi a.gate) (gate_mem.mpr ⟨ha, rfl⟩) (gate_mem.mpr ⟨hb, hg.symm⟩) with e | e | e
  · exact e
  · omega
  · omega

theorem hon_num {a : Scn} (ha : a ∈ h.out) : 1 ≤ a.number ∧ a.number ≤ h.out.length := by
  obtain ⟨m, hm⟩ := hon_gate hi a.gate
  have h1 : a.number ∈ (List.range' 1 m).map Int.ofNat := by rw [← hm]; exact List.mem_map_of_mem (gate_mem.mpr ⟨ha, rfl⟩)
  obtain ⟨q, hq, e⟩ := List.mem_map.mp h1
  rw [List.mem_range'_1] at hq
  have hl := congrArg List.length hm
  rw [List.length_map, List.length_map, List.length_range'] at hl
  have h2 : (gateL h.out a.gate).length ≤ h.out.length := List.length_filter_le _ _
  have e : (q : Int) = a.number := e
  omega

theorem less_mem {k : Nat} (hk : k < h.out.length) (a : Scn) : a ∈ h.out.take k ++ h.out.drop (k + 1) ↔ a ∈ h.out ∧ a ≠ h.out[k] := by
  have e : h.out = h.out.take k ++ h.out[k] :: h.out.drop (k + 1) := by
    rw [← List.drop_eq_getElem_cons hk, List.take_append_drop]
  have hnd := hon_nodup hi
  have hm : a ∈ h.out ↔ a ∈ h.out.take k ++ h.out[k] :: h.out.drop (k + 1) := by rw [← e]
  have hx : h.out[k] ∉ h.out.take k ++ h.out.drop (k + 1) := by
    rw [e] at hnd
    have hp := (List.perm_middle (a := h.out[k]) (l₁ := h.out.take k) (l₂ := h.out.drop (k + 1))).nodup hnd
    exact (List.nodup_cons.mp hp).1
  rw [hm]
  constructor
  · intro ha
    refine ⟨?_, fun e => hx (by rw [← e]; exact ha)⟩
    rcases List.mem_append.mp ha with ha | ha
    · exact List.mem_append_left _ ha
    · exact List.mem_append_right _ (List.mem_cons_of_mem _ ha)
  · rintro ⟨ha, hne⟩
    rcases List.mem_append.mp ha with ha | ha
    · exact List.mem_append_left _ ha
    · rcases List.mem_cons.mp ha with ha | ha
      · exact absurd ha hne
      · exact List.mem_append_right _ ha

/-- A scan that is missing. -/
theorem lie_gap {k : Nat} (hk : k < h.out.length) (hl : h.out.length ≤ 60) {v : Scn} (hv : v ∈ h.out) (hg : v.gate = (h.out[k]).gate) (hn : (h.out[k]).number < v.number) :
    ∃ b, IsBl [] 0 (setK KS (h.out.take k ++ h.out.drop (k + 1))) b ∧ b.kind = 3 ∧ b.gate = (h.out[k]).gate ∧ b.number = (h.out[k]).number := by
  have hx := hon_num hi (List.getElem_mem hk)
  refine gap_bl (v := v) ?_ hg ⟨hx.1, hn⟩ (fun t ht _ => ?_) (fun t ht hg2 e => ?_)
  · rw [setK_mem, less_mem hi hk]
    exact ⟨hv, fun e => by rw [e] at hn; omega⟩
  · rw [setK_mem, less_mem hi hk] at ht
    have := hon_num hi ht.1
    omega
  · rw [setK_mem, less_mem hi hk] at ht
    exact ht.2 (hon_unique hi ht.1 (List.getElem_mem hk) hg2 e)

/-- Another scan with its number. -/
theorem lie_fork {k : Nat} (hk : k < h.out.length) (ser : Int) :
    ∃ b, IsBl [] 0 (setK KS (h.out ++ [{ h.out[k] with kind := 3, serial := ser }])) b ∧ b.kind = 2 ∧ b.gate = (h.out[k]).gate ∧ b.number = (h.out[k]).number := by
  refine fork_bl (s := h.out[k]) (t := { h.out[k] with kind := 3, serial := ser }) ?_ ?_ (fun e => ?_) rfl rfl rfl rfl
  · rw [setK_mem]; exact List.mem_append_left _ (List.getElem_mem hk)
  · rw [setK_mem]; exact List.mem_append_right _ (List.mem_singleton.mpr rfl)
  · have := hi.kinds _ (List.getElem_mem hk)
    rw [e] at this
    dsimp only at this
    omega

/-- A scan that is too early. -/
theorem lie_order {k : Nat} (hk : k < h.out.length) {a : Scn} (ha : a ∈ h.out) (hg : a.gate = (h.out[k]).gate) (hn : a.number = (h.out[k]).number - 1) :
    ∃ b, IsBl [] 0 (setK KS (h.out.take k ++ h.out.drop (k + 1) ++ [{ h.out[k] with time := a.time - 1 }])) b ∧ b.kind = 3 ∧ b.gate = (h.out[k]).gate ∧ b.number = (h.out[k]).number := by
  have hm : ∀ c, c ∈ setK KS (h.out.take k ++ h.out.drop (k + 1) ++ [{ h.out[k] with time := a.time - 1 }]) ↔ (c ∈ h.out ∧ c ≠ h.out[k]) ∨ c = { h.out[k] with time := a.time - 1 } := fun c => by
    rw [setK_mem, List.mem_append, less_mem hi hk, List.mem_singleton]
  refine order_bl (s := { h.out[k] with time := a.time - 1 }) (t := a) (strict_nodup KS (setK_strict KS _)) ((hm _).mpr (Or.inr rfl)) ((hm _).mpr (Or.inl ⟨ha, fun e => by rw [e] at hn; omega⟩)) rfl hg (fun c hc d hd gc gd e => ?_) (by dsimp only; omega) (by dsimp only; omega)
  rcases (hm c).mp hc with ⟨c1, c2⟩ | rfl
  · rcases (hm d).mp hd with ⟨d1, _⟩ | rfl
    · exact hon_unique hi c1 d1 (gc.trans gd.symm) e
    · exact absurd (hon_unique hi c1 (List.getElem_mem hk) gc e) c2
  · rcases (hm d).mp hd with ⟨d1, d2⟩ | rfl
    · exact absurd (hon_unique hi d1 (List.getElem_mem hk) gd e.symm) d2
    · rfl
end
end Go.Proofs.Ytpmoelkblngamaa
