/- ledger: the same bookings in the other order: the same balances: plain. -/
import Derived.Test.YtafhdpalobalkaaLC4
namespace Go.Proofs.Ytafhdpalobalkaa

theorem sumF_add (f : AccT → Int) (l : List PostT) (a : AccT) : ∀ i, sumF f l i a = f a + sumF (fun _ => 0) l i a := by
  intro i
  induction i with
  | zero => show f a = f a + 0; omega
  | succ i ih =>
    show plusF (sumF f l i) _ a = f a + plusF (sumF (fun _ => 0) l i) _ a
    unfold plusF
    rw [ih]
    omega

def parts (a : AccT) (b : BookT) : Int := sumF (fun _ => 0) b.2 b.2.length a

theorem fold_sum (a : AccT) : ∀ (Bs : List BookT) (f : AccT → Int), (Bs.foldl (fun f b => sumF f b.2 b.2.length) f) a = f a + (Bs.map (parts a)).sum := by
  intro Bs
  induction Bs with
  | nil => intro f; simp
  | cons b Bs ih =>
    intro f
    rw [List.foldl_cons, ih, sumF_add, List.map_cons, List.sum_cons]
    unfold parts
    omega

theorem balS_sum (Bs : List BookT) (a : AccT) : balS Bs a = (Bs.map (parts a)).sum := by
  unfold balS
  rw [fold_sum]
  omega

theorem balS_reverse (Bs : List BookT) : balS Bs.reverse = balS Bs := by
  funext a
  rw [balS_sum, balS_sum, List.map_reverse, List.sum_reverse]
end Go.Proofs.Ytafhdpalobalkaa
