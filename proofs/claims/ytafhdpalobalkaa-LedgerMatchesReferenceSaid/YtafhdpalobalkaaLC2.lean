/- ledger: the head's bookings: plain. -/
import Derived.Test.YtafhdpalobalkaaLC1
namespace Go.Proofs.Ytafhdpalobalkaa

def cardN : Name := [99, 97, 114, 100]
def hp1 : PostT := ((5, cardN), -500)
def hp2 : PostT := ((1, []), 500)
def hb1 : BookT := (1, [hp1, hp2])
def hb2 : BookT := (2, [((1, []), 1), ((3, []), -2)])
def hb3 : BookT := (2, [((1, []), -500), ((5, cardN), 500)])
def hb4 : BookT := (3, [hp1])

theorem head_1 : bookE [] hb1 = 0 := by decide +kernel
theorem head_2 : bookE [hb1] hb1 = 9 := by decide +kernel
theorem head_3 : bookE [hb1] hb2 = 19 := by decide +kernel
theorem head_4 : bookE [hb1] hb3 = 0 := by decide +kernel
theorem head_5 : bookE [hb1, hb3] hb4 = 1 := by decide +kernel

theorem head_bal1 : IsBal [hp2, hp1] (balS [hb1]) := by
  refine ⟨by decide +kernel, by decide +kernel, fun a ha => ?_⟩
  have h : balS [hb1] a = (0 + if a = (5, cardN) then -500 else 0) + if a = (1, []) then 500 else 0 := rfl
  rw [h] at ha ⊢
  by_cases h1 : a = (5, cardN)
  · subst h1; decide +kernel
  · by_cases h2 : a = (1, [])
    · subst h2; decide +kernel
    · simp [h1, h2] at ha

theorem head_bal2 : IsBal [] (balS [hb1, hb3]) := by
  refine ⟨by simp, by simp, fun a ha => ?_⟩
  have h : balS [hb1, hb3] a = (((0 + if a = (5, cardN) then -500 else 0) + if a = (1, []) then 500 else 0) + if a = (1, []) then -500 else 0) + if a = (5, cardN) then 500 else 0 := rfl
  rw [h] at ha
  by_cases h1 : a = (5, cardN)
  · subst h1; simp at ha
  · by_cases h2 : a = (1, [])
    · subst h2; simp [h1] at ha
    · simp [h1, h2] at ha

theorem head_val : balS [hb1] (5, cardN) = -500 := by decide +kernel
end Go.Proofs.Ytafhdpalobalkaa
