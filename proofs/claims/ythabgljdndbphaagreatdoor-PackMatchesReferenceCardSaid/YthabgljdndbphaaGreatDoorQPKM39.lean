/- pack: plain: fit.Check takes the proof; pack: plain: the solution is legal, brings all that can be had, and its choices come first. -/
import Derived.Test.YthabgljdndbphaaGreatDoorQPKM19
import Derived.Test.YthabgljdndbphaaGreatDoorQPKM24

set_option linter.unusedVariables false
set_option linter.unusedSimpArgs false
namespace Go.Proofs.YthabgljdndbphaaGreatDoor
set_option linter.unusedSimpArgs false
set_option linter.unusedVariables false

/-- The choices with one more. -/
def updC (c : Nat → Int) (g : Nat) (v : Int) : Nat → Int := fun i => if i = g then v else c i
theorem updC_lt (c : Nat → Int) (g : Nat) (v : Int) {i : Nat} (h : i < g) : updC c g v i = c i := by unfold updC; rw [if_neg (by omega)]
theorem updC_at (c : Nat → Int) (g : Nat) (v : Int) : updC c g v g = v := by unfold updC; rw [if_pos rfl]
theorem dec_upd (c : Nat → Int) (g : Nat) (v : Int) : dec (updC c g v) (g + 1) = dec c g ++ [((g : Int), v)] := by
 rw [dec_succ, updC_at, dec_congr _ c g fun i hi => updC_lt c g v hi]
/-- What the runs are when the groups before g have their choices. -/
structure At (R : List Int) (G : List (Int × Int)) (c : Nat → Int) (g : Nat) (L : List (Int × Bool)) : Prop where
 runs : ∀ i, i < g → -1 ≤ c i ∧ c i < R.length
 rooms : L.map (·.1) = roomS R G (dec c g)
 used : UsedOk R.length (dec c g) (L.map (·.2))
section
variable {R : List Int} {G : List (Int × Int)} {c : Nat → Int} {g : Nat} {L : List (Int × Bool)}
theorem At.len (h : At R G c g L) : L.length = R.length := by
 have := congrArg List.length h.rooms
 rw [roomS_len, List.length_map] at this
 exact this
theorem At.room (h : At R G c g L) {r : Nat} (hr : r < L.length) : ix (roomS R G (dec c g)) r = L[r].1 := by
 rw [← h.rooms]
 unfold ix
 simp [hr]
theorem At.use (h : At R G c g L) {r : Nat} (hr : r < L.length) : L[r].2 = true ↔ ∃ p ∈ dec c g, p.2 = (r : Int) := by
 rw [← h.used.2 r (by rw [← h.len]; exact hr)]
 unfold bx
 simp [hr]
theorem At.sit (h : At R G c g L) {r : Nat} (hr : r < R.length) : At R G (updC c g r) (g + 1) (sitF L r (gs G g)) := by
 have hl := h.len
 obtain ⟨m1, m2⟩ := sit_maps L (q := r) (by omega) (gs G g)
 refine ⟨fun i hi => ?_, ?_, ?_⟩
 ·
  by_cases e : i = g
  ·
   subst e; rw [updC_at]; omega
  ·
   rw [updC_lt _ _ _ (by omega)]; exact h.runs i (by omega)
 ·
  rw [m1, dec_upd, roomS_push, roomF]
  dsimp only
  rw [if_pos (by omega), Int.toNat_natCast, Int.toNat_natCast, h.rooms]
 ·
  rw [m2, dec_upd]
  exact h.used.sit _ r hr
theorem At.out (h : At R G c g L) : At R G (updC c g (-1)) (g + 1) L := by
 refine ⟨fun i hi => ?_, ?_, ?_⟩
 ·
  by_cases e : i = g
  ·
   subst e; rw [updC_at]; omega
  ·
   rw [updC_lt _ _ _ (by omega)]; exact h.runs i (by omega)
 ·
  rw [dec_upd, roomS_push, roomF]
  dsimp only
  rw [if_neg (by omega), h.rooms]
 ·
  rw [dec_upd]
  exact h.used.out _ (-1) (by omega)
theorem At.start (R : List Int) (G : List (Int × Int)) (c : Nat → Int) : At R G c 0 (R.map run0) := by
 refine ⟨fun i hi => absurd hi (Nat.not_lt_zero _), ?_, ?_⟩
 ·
  rw [List.map_map]
  show R.map (fun x => x) = R
  simp
 ·
  have : (R.map run0).map (·.2) = List.replicate R.length false := by
   rw [List.map_map]
   show R.map (fun _ => false) = _
   exact List.map_const' ..
  rw [this]
  exact used_none _
theorem val_sit (G : List (Int × Int)) (c : Nat → Int) (g r : Nat) : valS G (dec (updC c g r) (g + 1)) = valS G (dec c g) + gs G g * gv G g := by
 rw [dec_upd, valS_push, valF]
 dsimp only
 rw [if_pos (by omega), Int.toNat_natCast]
theorem val_out (G : List (Int × Int)) (c : Nat → Int) (g : Nat) : valS G (dec (updC c g (-1)) (g + 1)) = valS G (dec c g) := by
 rw [dec_upd, valS_push, valF]
 dsimp only
 rw [if_neg (by omega)]
end
theorem sum_sit : ∀ (L : List (Int × Bool)) (i : Nat) (s : Int), i < L.length → sumL (sitF L i s) = sumL L - s
 | x :: L, 0, s, _ => by
  simp [sumL, sitF]
  omega
 | x :: L, i + 1, s, h => by
  have ih := sum_sit L i s (by simpa using h)
  unfold sumL sitF at ih ⊢
  rw [List.getD_cons_succ, List.set_cons_succ, List.map_cons, List.map_cons, List.sum_cons, List.sum_cons, ih]
  omega
theorem left_sum : ∀ (L : List (Int × Bool)), (∀ x ∈ L, 0 ≤ x.1) → leftS (L.map (·.1)) = sumL L ∧ 0 ≤ sumL L
 | [], _ => ⟨rfl, Int.le_refl _⟩
 | x :: L, h => by
  obtain ⟨h1, h2⟩ := left_sum L fun y hy => h y (List.mem_cons_of_mem _ hy)
  have hx := h x (List.mem_cons_self ..)
  unfold leftS sumL at *
  rw [List.map_cons, List.foldr_cons, List.sum_cons, h1]
  exact ⟨by rw [Int.max_eq_left hx], by omega⟩
theorem no_neg {L : List (Int × Bool)} (h : L.findIdx? negP = none) : ∀ x ∈ L, 0 ≤ x.1 := fun x hx => by
 have := (List.findIdx?_eq_none_iff.1 h) x hx
 unfold negP at this
 simp at this
 exact this

section
variable {single : Bool} {R : List Int} {G : List (Int × Int)} {val : Int} {T : List StepT}

end
end Go.Proofs.YthabgljdndbphaaGreatDoor

namespace Go.Proofs.YthabgljdndbphaaGreatDoor
set_option linter.unusedSimpArgs false
set_option linter.unusedVariables false

def seatOf (G : List (Int × Int)) (c : Nat → Int) (k : Nat) : Int × Int := (c k, if 0 ≤ c k then takes G c (c k) k else 0)
/-- The choices c come first, or are the same. -/
def FirstC (m : Nat) (c d : Nat → Int) : Prop := (∀ i, i < m → d i = c i) ∨ ∃ i, i < m ∧ (∀ j, j < i → d j = c j) ∧ 0 ≤ c i ∧ (d i < 0 ∨ c i < d i)
section
variable {single : Bool} {R : List Int} {G : List (Int × Int)} {c c' d : Nat → Int} {g : Nat} {L : List (Int × Bool)}
theorem At.congr (h : At R G c g L) (e : ∀ i, i < g → c' i = c i) : At R G c' g L := by
 have hd : dec c' g = dec c g := dec_congr _ _ _ e
 refine ⟨fun i hi => ?_, ?_, ?_⟩
 ·
  rw [e i hi]; exact h.runs i hi
 ·
  rw [hd]; exact h.rooms
 ·
  rw [hd]; exact h.used
theorem upd_same (e : ∀ i, i < g → c' i = c i) : ∀ i, i < g + 1 → c' i = updC c g (c' g) i := fun i hi => by
 by_cases h : i = g
 ·
  subst h; rw [updC_at]
 ·
  rw [updC_lt _ _ _ (by omega)]; exact e i (by omega)
theorem At.sit' (h : At R G c g L) {r : Nat} (hr : r < R.length) (e : c g = (r : Int)) : At R G c (g + 1) (sitF L r (gs G g)) :=
 (h.sit hr).congr fun i hi => by
  have := upd_same (c := c) (c' := c) (g := g) (fun _ _ => rfl) i hi
  rw [e] at this
  exact this
theorem At.out' (h : At R G c g L) (e : c g = -1) : At R G c (g + 1) L :=
 h.out.congr fun i hi => by
  have := upd_same (c := c) (c' := c) (g := g) (fun _ _ => rfl) i hi
  rw [e] at this
  exact this
theorem val_sit' {r : Nat} (e : c g = (r : Int)) : valS G (dec c (g + 1)) = valS G (dec c g) + gs G g * gv G g := by
 rw [dec_succ, e, valS_push, valF]
 dsimp only
 rw [if_pos (by omega), Int.toNat_natCast]
theorem val_out' (e : c g = -1) : valS G (dec c (g + 1)) = valS G (dec c g) := by
 rw [dec_succ, e, valS_push, valF]
 dsimp only
 rw [if_neg (by omega)]
theorem sit_get {r : Nat} (hr : r < L.length) {s : Int} {q : Nat} (hq : q < (sitF L r s).length) : (sitF L r s)[q] = if r = q then (L[r].1 - s, true) else L[q]'(by rw [sit_len] at hq; exact hq) := by
 simp [sitF, List.getElem_set, hr]
theorem sit_nonneg {r : Nat} (hr : r < L.length) {s : Int} (hs : 0 ≤ s) (h : ∀ x ∈ sitF L r s, 0 ≤ x.1) : s ≤ L[r].1 ∧ ∀ x ∈ L, 0 ≤ x.1 := by
 have key : ∀ q (hq : q < L.length), 0 ≤ (if r = q then (L[r].1 - s, true) else L[q]).1 := fun q hq => by
  have := h _ (List.getElem_mem (by rw [sit_len]; exact hq : q < (sitF L r s).length))
  rw [sit_get hr] at this
  exact this
 have h1 := key r hr
 rw [if_pos rfl] at h1
 dsimp only at h1
 refine ⟨by omega, fun x hx => ?_⟩
 obtain ⟨q, hq, rfl⟩ := List.mem_iff_getElem.1 hx
 by_cases e : r = q
 ·
  subst e; omega
 ·
  have := key q hq
  rw [if_neg e] at this
  exact this
/-- A choice brings at most what can be had. -/
theorem choice_upper (hv : ValuesOk G) (h : Choice single R G d) : ∀ (k g : Nat) (L : List (Int × Bool)), g + k = G.length → At R G d g L → (∀ x ∈ L, 0 ≤ x.1) ∧ 0 ≤ packF single G k g L ∧ valS G (dec d G.length) ≤ valS G (dec d g) + packF single G k g L
 | 0, g, L, hg, hat => by
  obtain rfl : g = G.length := by omega
  have hl := hat.len
  refine ⟨fun x hx => ?_, ?_⟩
  ·
   obtain ⟨q, hq, rfl⟩ := List.mem_iff_getElem.1 hx
   rw [← hat.room hq]
   exact h.room q (by omega)
  ·
   rw [packF_zero, if_neg]
   ·
    omega
   ·
    rintro ⟨hs, x, hx, h1, h2⟩
    obtain ⟨q, hq, rfl⟩ := List.mem_iff_getElem.1 hx
    obtain ⟨p, hp, e⟩ := (hat.use hq).1 h1
    obtain ⟨i, hi, rfl⟩ := (mem_dec _ _ _).1 hp
    exact h.one hs q (by omega) ⟨i, hi, e⟩ (by rw [hat.room hq]; exact h2)
 | k + 1, g, L, hg, hat => by
  have hl := hat.len
  have hgv := hv g (by omega)
  obtain ⟨p1, p2, _⟩ := packF_spec single G k g L
  have hr := h.runs g (by omega)
  by_cases e : d g = -1
  ·
   obtain ⟨i1, i2, i3⟩ := choice_upper hv h k (g + 1) L (by omega) (hat.out' e)
   rw [val_out' e] at i3
   exact ⟨i1, by omega, by omega⟩
  ·
   obtain ⟨q, hq⟩ : ∃ q : Nat, d g = (q : Int) := ⟨(d g).toNat, by omega⟩
   obtain ⟨i1, i2, i3⟩ := choice_upper hv h k (g + 1) (sitF L q (gs G g)) (by omega) (hat.sit' (by omega) hq)
   rw [val_sit' hq] at i3
   obtain ⟨n1, n2⟩ := sit_nonneg (L := L) (r := q) (by omega) (by omega) i1
   have := p2 q (by omega) n1 i2
   have hpos : 0 ≤ gs G g * gv G g := Int.mul_nonneg (by omega) (by omega)
   exact ⟨n2, by omega, by omega⟩
theorem find_some {p : Nat → Bool} {n i : Nat} (h : (List.range n).find? p = some i) : i < n ∧ p i = true ∧ ∀ j, j < i → p j = false := by
 obtain ⟨h1, j, hj, e, h2⟩ := List.find?_eq_some_iff_getElem.1 h
 rw [List.getElem_range] at e
 subst e
 refine ⟨by simpa using hj, h1, fun q hq => ?_⟩
 have := h2 q hq
 rw [List.getElem_range] at this
 simpa using this
theorem sol_choice (hv : ValuesOk G) : ∀ (k g : Nat) (c : Nat → Int) (L : List (Int × Bool)) (left : Int), g + k = G.length → At R G c g L → (∀ x ∈ L, 0 ≤ x.1) → left = packF single G k g L → 0 ≤ left →
  ∃ c', (∀ i, i < g → c' i = c i) ∧ Choice single R G c' ∧ valS G (dec c' G.length) = valS G (dec c g) + left ∧ solF single R G k g L left = (List.range' g k).map (seatOf G c') ∧
   ∀ d, (∀ i, i < g → d i = c i) → Choice single R G d → valS G (dec d G.length) = valS G (dec c g) + left → FirstC G.length c' d
 | 0, g, c, L, left, hg, hat, hn, hlf, h0 => by
  obtain rfl : g = G.length := by omega
  have hl := hat.len
  rw [packF_zero] at hlf
  have hno : ¬ (single = true ∧ ∃ r ∈ L, r.2 = true ∧ r.1 = 1) := fun h => by rw [if_pos h] at hlf; omega
  rw [if_neg hno] at hlf
  subst hlf
  refine ⟨c, fun _ _ => rfl, ⟨hat.runs, fun r hr => ?_, fun hs r hr ⟨i, hi, e⟩ h1 => ?_⟩, by omega, rfl, fun d hd _ _ => Or.inl hd⟩
  ·
   rw [hat.room (by omega)]
   exact hn _ (List.getElem_mem _)
  ·
   have hrl : r < L.length := by omega
   rw [hat.room hrl] at h1
   exact hno ⟨hs, L[r], List.getElem_mem _, (hat.use hrl).2 ⟨((i : Int), c i), (mem_dec _ _ _).2 ⟨i, hi, rfl⟩, e⟩, h1⟩
 | k + 1, g, c, L, left, hg, hat, hn, hlf, h0 => by
  have hl := hat.len
  have hgv := hv g (by omega)
  obtain ⟨p1, p2, p3⟩ := packF_spec single G k g L
  -- a choice with q that brings as much: q could be picked
  have hcan : ∀ d, (∀ i, i < g → d i = c i) → Choice single R G d → valS G (dec d G.length) = valS G (dec c g) + left → ∀ q : Nat, q < L.length → d g = (q : Int) → pickAt single G k g L left q = true := by
   intro d hd hc hval q hq hdq
   have hat' : At R G d g L := hat.congr hd
   obtain ⟨i1, i2, i3⟩ := choice_upper hv hc k (g + 1) (sitF L q (gs G g)) (by omega) (hat'.sit' (by omega) hdq)
   rw [val_sit' hdq, dec_congr d c g hd, hval] at i3
   obtain ⟨n1, _⟩ := sit_nonneg (L := L) (r := q) hq (by omega) i1
   have := p2 q hq n1 i2
   exact (pick_iff single G k g L left q hq).2 ⟨by omega, i2, by omega⟩
  cases hf : (List.range L.length).find? (pickAt single G k g L left) with
  | some i =>
   obtain ⟨hi, hp, hb⟩ := find_some hf
   obtain ⟨q1, q2, q3⟩ := (pick_iff single G k g L left i hi).1 hp
   have hnn : ∀ x ∈ sitF L i (gs G g), 0 ≤ x.1 := fun x hx => by
    obtain ⟨q, hq, rfl⟩ := List.mem_iff_getElem.1 hx
    rw [sit_get hi]
    split
    ·
     dsimp only; omega
    ·
     exact hn _ (List.getElem_mem _)
   obtain ⟨c', c1, c2, c3, c4, c5⟩ := sol_choice hv k (g + 1) (updC c g i) (sitF L i (gs G g)) (left - gs G g * gv G g) (by omega) (hat.sit (by omega)) hnn (by omega) (by omega)
   have hcg : c' g = (i : Int) := by rw [c1 g (by omega), updC_at]
   have hlow : ∀ j, j < g → c' j = c j := fun j hj => by rw [c1 j (by omega), updC_lt _ _ _ hj]
   refine ⟨c', hlow, c2, by rw [c3, val_sit]; omega, ?_, fun d hd hc hval => ?_⟩
   ·
    rw [solF, hf]
    dsimp only
    rw [c4, List.range'_succ, List.map_cons]
    congr 1
    unfold seatOf
    rw [hcg, if_pos (by omega)]
    have e1 := hat.room hi
    rw [room_takes R G c i g (fun j hj => (hat.runs j hj).2)] at e1
    have e2 : L.getD i (0, false) = L[i] := by simp [hi]
    have e3 : takes G c' (i : Int) g = takes G c (i : Int) g := sumRows_congr _ _ _ fun j hj => by rw [hlow j hj]
    rw [e2, e3]
    congr 1
    omega
   ·
    by_cases e : d g = (i : Int)
    ·
     refine c5 d (fun j hj => ?_) hc (by rw [hval, val_sit]; omega)
     by_cases ej : j = g
     ·
      subst ej; rw [updC_at]; exact e
     ·
      rw [updC_lt _ _ _ (by omega)]; exact hd j (by omega)
    ·
     refine Or.inr ⟨g, by omega, fun j hj => by rw [hd j hj, hlow j hj], by omega, ?_⟩
     rw [hcg]
     have hr := hc.runs g (by omega)
     by_cases hneg : d g < 0
     ·
      exact Or.inl hneg
     ·
      right
      obtain ⟨q, hq⟩ : ∃ q : Nat, d g = (q : Int) := ⟨(d g).toNat, by omega⟩
      by_cases hlt : q < i
      ·
       have := hcan d hd hc hval q (by omega) hq
       rw [hb q hlt] at this
       cases this
      ·
       omega
  | none =>
   have hnone : ∀ j, j < L.length → pickAt single G k g L left j = false := fun j hj => by
    have := List.find?_eq_none.1 hf j (List.mem_range.2 hj)
    simpa using this
   have hleft : left = packF single G k (g + 1) L := by
    rcases p3 with e | ⟨q, hq, q1, q2, q3⟩
    ·
     omega
    ·
     have := hnone q hq
     rw [(pick_iff single G k g L left q hq).2 ⟨by omega, q2, by omega⟩] at this
     cases this
   obtain ⟨c', c1, c2, c3, c4, c5⟩ := sol_choice hv k (g + 1) (updC c g (-1)) L left (by omega) hat.out hn hleft h0
   have hcg : c' g = -1 := by rw [c1 g (by omega), updC_at]
   have hlow : ∀ j, j < g → c' j = c j := fun j hj => by rw [c1 j (by omega), updC_lt _ _ _ hj]
   refine ⟨c', hlow, c2, by rw [c3, val_out], ?_, fun d hd hc hval => ?_⟩
   ·
    rw [solF, hf]
    dsimp only
    rw [c4, List.range'_succ, List.map_cons]
    congr 1
    unfold seatOf
    rw [hcg, if_neg (by omega)]
   ·
    have hr := hc.runs g (by omega)
    by_cases e : d g = -1
    ·
     refine c5 d (fun j hj => ?_) hc (by rw [hval, val_out])
     by_cases ej : j = g
     ·
      subst ej; rw [updC_at]; exact e
     ·
      rw [updC_lt _ _ _ (by omega)]; exact hd j (by omega)
    ·
     obtain ⟨q, hq⟩ : ∃ q : Nat, d g = (q : Int) := ⟨(d g).toNat, by omega⟩
     have := hcan d hd hc hval q (by omega) hq
     rw [hnone q (by omega)] at this
     cases this
end
theorem seatAll_eq (G : List (Int × Int)) (c : Nat → Int) : seatAll G c = (List.range' 0 G.length).map (seatOf G c) := by
 unfold seatAll
 rw [List.range_eq_range']
 rfl
section
variable {single : Bool} {R : List Int} {G : List (Int × Int)}
theorem run_rooms (hv : validS R G = true) : ∀ x ∈ R.map run0, 0 ≤ x.1 := fun x hx => by
 obtain ⟨r, hr, rfl⟩ := List.mem_map.1 hx
 obtain ⟨i, hi, rfl⟩ := List.mem_iff_getElem.1 hr
 have := (runsOk_sum R 4000 (by omega) (validS_parts hv).1).2.2 i hi
 rw [ix_get hi] at this
 show 0 ≤ R[i]
 omega
/-- The solution: some choices, the first ones that bring all that can be had. -/
theorem sol_first (hv : validS R G = true) : ∃ c, Choice single R G c ∧ valS G (dec c G.length) = packF single G G.length 0 (R.map run0) ∧
  solF single R G G.length 0 (R.map run0) (packF single G G.length 0 (R.map run0)) = seatAll G c ∧
  ∀ d, Choice single R G d → valS G (dec d G.length) ≤ packF single G G.length 0 (R.map run0) ∧ (valS G (dec d G.length) = packF single G G.length 0 (R.map run0) → FirstC G.length c d) := by
 have hp := (validS_parts hv).2.2
 obtain ⟨c, _, h2, h3, h4, h5⟩ := sol_choice (single := single) (R := R) hp G.length 0 (fun _ => -1) (R.map run0) _ (by omega) (At.start R G _) (run_rooms hv) rfl (packF_start _ _)
 have e0 : ∀ c : Nat → Int, valS G (dec c 0) = 0 := fun _ => rfl
 rw [e0, Int.zero_add] at h3 h5
 refine ⟨c, h2, h3, by rw [h4, seatAll_eq], fun d hd => ⟨?_, fun e => h5 d (fun i hi => absurd hi (Nat.not_lt_zero _)) hd e⟩⟩
 have := (choice_upper hp hd G.length 0 (R.map run0) (by omega) (At.start R G _)).2.2
 rw [e0, Int.zero_add] at this
 exact this
theorem pack_best : packF single G G.length 0 (R.map run0) = bestS single R G := by
 unfold packF bestS
 have h1 : (R.map run0).map (·.1) = R := by
  rw [List.map_map]
  show R.map (fun x => x) = R
  simp
 have h2 : (R.map run0).map (·.2) = List.replicate R.length false := by
  rw [List.map_map]
  show R.map (fun _ => false) = _
  exact List.map_const' ..
 rw [h1, h2]
end
end Go.Proofs.YthabgljdndbphaaGreatDoor
