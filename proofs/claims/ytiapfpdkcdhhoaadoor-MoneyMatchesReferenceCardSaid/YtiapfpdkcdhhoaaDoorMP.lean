/- money.Parse: the walk. -/
import Derived.Test.YtiapfpdkcdhhoaaDoorMT
namespace Go.Proofs.YtiapfpdkcdhhoaaDoor
open Go.RowKit Go.IntWalk

theorem replaceK_le (old : List UInt8) : ∀ (k : Nat) (s : List UInt8), (Lib.replaceK old [] k s).length ≤ s.length
  | 0, s => Nat.le_refl _
  | k + 1, s => by
    unfold Lib.replaceK
    split
    · exact Nat.le_refl _
    · have := replaceK_le old k (s.drop ((Lib.index s old).toNat + old.length))
      simp only [List.append_nil, List.length_append, List.length_take]
      rw [List.length_drop] at this
      omega

theorem replace_le (s old : List UInt8) (n : Int) : (Lib.replace s old [] n).length ≤ s.length := by
  unfold Lib.replace
  split
  · exact Nat.le_refl _
  · exact replaceK_le _ _ _

theorem bs_inj {x y : List UInt8} : bs x = bs y ↔ x = y := by
  constructor
  · intro h
    have h2 : (bs x).data.toList = (bs y).data.toList := by rw [h]
    simpa [bs] using h2
  · intro h; rw [h]

theorem bs_list (x : List UInt8) : (bs x).data.toList = x := by show x.toArray.toList = x; simp

theorem bs_toList (x : List UInt8) : (bs x).toList = x := by rw [ByteArray.toList_eq]; exact bs_list x

theorem bs_beq (x y : List UInt8) : ((bs x).toList == (bs y).toList) = decide (x = y) := by
  rw [bs_toList, bs_toList]
  by_cases h : x = y
  · subst h; simp
  · simp [h]

/-- What Parse returns. -/
def parseV (t : List UInt8) : Int × Int := match parseS t with
  | some v => (v, 0)
  | none => (0, 4)

def ParsePost (t : List UInt8) (w : World) (e : Ending) (w' : World) : Prop := e = .returned (.tuple #[.int .i64 (parseV t).1, .int .i64 (parseV t).2]) ∧ Below w.heap.size w w'

theorem replace_any (t : List UInt8) (ht : t.length ≤ 1000000) (w : World) (hk : Kit w) : Calls Tryd.prog 34 #[.string (bs t), .string ⟨#[46]⟩, .string ⟨#[]⟩, .int .i64 1] w fun e w' => e = .returned (.string (bs (Lib.replace t [46] [] 1))) ∧ Below w.heap.size w w' := by
  obtain ⟨m, hm⟩ := hk.max
  have h := Tryd.strings_Replace (bs t) ⟨#[46]⟩ ⟨#[]⟩ 1 m w (by rw [bs_size]; omega) hm (by simp [ByteArray.size]) (by rw [bs_size]; simp [ByteArray.size]; omega)
  refine h.mono ?_
  rintro e w' ⟨rfl, hb⟩
  exact ⟨by rw [bs_list]; rfl, hb⟩

theorem bytes_below (w : World) (t : ByteArray) : Below w.heap.size w (Lib.bytesWorld w 5 t) := Joins.below_bytesWorld w.heap.size w 5 t (Nat.le_refl _)

set_option maxRecDepth 10000 in
set_option maxHeartbeats 3200000 in
theorem parse_any (t : List UInt8) (ht : t.length ≤ 1000000) (w : World) (hk : Kit w) : Calls Tryd.prog 17 #[.string (bs t)] w (ParsePost t w) := by
  have HK := Lib.hid hk
  clear hk
  obtain ⟨s, hs⟩ : ∃ s, Lib.replace t [46] [] 1 = s := ⟨_, rfl⟩
  have hl : s.length ≤ 1000000 := by have := replace_le t [46] 1; rw [hs] at this; omega
  have HS := Lib.hid hs
  clear hs
  go_enter Tryd.func17, Tryd.ntmps17
  go_wp2_with fail
  refine (replace_any t ht w HK.out).mono ?_
  rintro e w1 ⟨rfl, hb1⟩
  have HB1 := Lib.hid hb1
  have HK1 := Lib.hid (HK.out.below hb1)
  clear hb1
  rw [HS.out]
  go_wp2_with fail
  cases ha : Lib.atoiAll s with
  | ok v =>
    have HA := Lib.hid ha
    clear ha
    refine (Tryd.strconv_Atoi_ok (bs s) (by rw [bs_size]; omega) v (by rw [bs_list]; exact HA.out) w1).mono ?_
    rintro e w2 ⟨rfl, hw2⟩
    have hb2 : Below w1.heap.size w1 w2 := by
      rcases hw2 with rfl | ⟨q, rfl⟩
      · exact Below.refl _ _
      · exact bytes_below _ _
    have HB2 := Lib.hid (HB1.out.trans (hb2.mono HB1.out.size))
    have HK2 := Lib.hid (HK1.out.below hb2)
    clear hb2 hw2
    go_wp2_with fail
    refine (text_any v w2 HK2.out).mono ?_
    rintro e w3 ⟨rfl, hb3⟩
    have HB3 := Lib.hid (HB2.out.trans (hb3.mono HB2.out.size))
    clear hb3
    have HV : Hid (parseV t = if textS v = t then (v, 0) else (0, 4)) := by
      show _ = _
      unfold parseV parseS
      rw [HS.out, HA.out]
      by_cases h : textS v = t
      · simp [h]
      · simp [h]
    by_cases he : textS v = t
    · have hq : ((bs (textS v)).toList == (bs t).toList) = true := by rw [bs_beq]; simp [he]
      have HE := Lib.hid he
      clear he
      go_wp2_with fail
      go_ret2
      exact ⟨by rw [HV.out, if_pos HE.out]; rfl, HB3.out⟩
    · have hq : ((bs (textS v)).toList == (bs t).toList) = false := by rw [bs_beq]; simp [he]
      have HE := Lib.hid he
      clear he
      go_wp2_with fail
      go_ret2
      exact ⟨by rw [HV.out, if_neg HE.out]; rfl, HB3.out⟩
  | range =>
    obtain ⟨tp, p, hc⟩ := HK1.out.ran
    have HP : Hid (parseV t = (0, 4)) := by show _ = _; unfold parseV parseS; rw [HS.out, ha]
    refine (Tryd.strconv_Atoi_range (bs s) (by rw [bs_size]; omega) (by rw [bs_list]; exact ha) _ w1 hc (.inr ⟨_, _, rfl⟩)).mono ?_
    rintro e w2 ⟨N, rfl, _, _, hb2⟩
    have HB2 := Lib.hid (HB1.out.trans (hb2.mono HB1.out.size))
    clear hb2 ha
    go_wp2_with fail
    go_ret2
    exact ⟨by rw [HP.out]; rfl, HB2.out⟩
  | _ =>
    obtain ⟨tp, p, hc⟩ := HK1.out.syn
    have HP : Hid (parseV t = (0, 4)) := by show _ = _; unfold parseV parseS; rw [HS.out, ha]
    refine (Tryd.strconv_Atoi_none (bs s) (by rw [bs_size]; omega) (by rw [bs_list, ha]; intro v hv; cases hv) (by rw [bs_list, ha]; intro hv; cases hv) _ w1 hc (.inr ⟨_, _, rfl⟩)).mono ?_
    rintro e w2 ⟨N, rfl, _, _, hb2⟩
    have HB2 := Lib.hid (HB1.out.trans (hb2.mono HB1.out.size))
    clear hb2 ha
    go_wp2_with fail
    go_ret2
    exact ⟨by rw [HP.out]; rfl, HB2.out⟩
end Go.Proofs.YtiapfpdkcdhhoaaDoor
