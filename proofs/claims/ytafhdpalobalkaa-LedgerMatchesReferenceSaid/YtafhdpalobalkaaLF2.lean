/- foyerref27: a ledger in memory; New, Balances, Bookings, Balance: the walks. -/
import Derived.Test.YtafhdpalobalkaaLF1
namespace Go.Proofs.Ytafhdpalobalkaa
open Go.RowKit Go.IntWalk Go.Maps Go.ChangeMaps

/-- The reference's ledger, in blocks of T. -/
structure RefC (w : World) (T : Nat → Prop) (g : Nat) (Bs : List BookT) (L : List PostT) (rs : List RawT) (va vb : Value) (n m : Nat) : Prop where
  box : w.heap[g]? = some (.cells #[va, vb] 57 (0, 0))
  mg : T g
  ma : ∀ r, va.ownBlock = some r → T r ∧ r ≠ g
  mb : ∀ r, vb.ownBlock = some r → T r ∧ r ≠ g
  lt : ∀ i, T i → i < w.heap.size
  rows : w.ownsRow 0 34 2 va n (flat RawE rs)
  sums : w.ownsRow 0 44 3 vb m (flat PostE L)
  bal : IsBal L (balS Bs)
  len : rs.length = Bs.length
  ids : ∀ i (h1 : i < rs.length) (h2 : i < Bs.length), rs[i].1 = Bs[i].1
  few : m ≤ 20 * Bs.length
  ok : BsOk Bs

def RefAt (w : World) (T : Nat → Prop) (g : Nat) (Bs : List BookT) (rs : List RawT) : Prop := ∃ L va vb n m, RefC w T g Bs L rs va vb n m

theorem RefC.keep {w w' : World} {T S : Nat → Prop} {g n m : Nat} {Bs : List BookT} {L : List PostT} {rs : List RawT} {va vb : Value} (h : RefC w T g Bs L rs va vb n m) (hu : Upd S w w') (hd : ∀ i, T i → ¬ S i) : RefC w' T g Bs L rs va vb n m := by
  have hb : ∀ i, T i → w'.heap[i]? = w.heap[i]? := fun i hi => hu.block i (h.lt i hi) (hd i hi)
  exact ⟨(hb g h.mg).trans h.box, h.mg, h.ma, h.mb, fun i hi => Nat.lt_of_lt_of_le (h.lt i hi) hu.size, row_of_heap h.rows (fun r hr => hb r (h.ma r hr).1), row_of_heap h.sums (fun r hr => hb r (h.mb r hr).1), h.bal, h.len, h.ids, h.few, h.ok⟩

theorem RefAt.keep {w w' : World} {T S : Nat → Prop} {g : Nat} {Bs : List BookT} {rs : List RawT} (h : RefAt w T g Bs rs) (hu : Upd S w w') (hd : ∀ i, T i → ¬ S i) : RefAt w' T g Bs rs :=
  let ⟨L, va, vb, n, m, hc⟩ := h; ⟨L, va, vb, n, m, hc.keep hu hd⟩

theorem RefC.below {w w' : World} {T : Nat → Prop} {g n m : Nat} {Bs : List BookT} {L : List PostT} {rs : List RawT} {va vb : Value} (h : RefC w T g Bs L rs va vb n m) (hb : Below w.heap.size w w') : RefC w' T g Bs L rs va vb n m :=
  h.keep (S := fun i => w.heap.size ≤ i) (Upd.of_below hb) (fun i hi hS => by have := h.lt i hi; omega)

theorem RefAt.below {w w' : World} {T : Nat → Prop} {g : Nat} {Bs : List BookT} {rs : List RawT} (h : RefAt w T g Bs rs) (hb : Below w.heap.size w w') : RefAt w' T g Bs rs :=
  let ⟨L, va, vb, n, m, hc⟩ := h; ⟨L, va, vb, n, m, hc.below hb⟩

theorem RefAt.lt {w : World} {T : Nat → Prop} {g : Nat} {Bs : List BookT} {rs : List RawT} (h : RefAt w T g Bs rs) : ∀ i, T i → i < w.heap.size := let ⟨_, _, _, _, _, hc⟩ := h; hc.lt
theorem RefAt.ok {w : World} {T : Nat → Prop} {g : Nat} {Bs : List BookT} {rs : List RawT} (h : RefAt w T g Bs rs) : BsOk Bs := let ⟨_, _, _, _, _, hc⟩ := h; hc.ok
theorem RefAt.len {w : World} {T : Nat → Prop} {g : Nat} {Bs : List BookT} {rs : List RawT} (h : RefAt w T g Bs rs) : rs.length = Bs.length := let ⟨_, _, _, _, _, hc⟩ := h; hc.len

theorem rnew_any (w : World) : Calls Try.prog 11 #[] w fun e w' => e = .returned (.pointer (some ⟨w.heap.size, 0, none⟩)) ∧ Below w.heap.size w w' ∧ RefAt w' (fun i => i = w.heap.size) w.heap.size [] [] := by
  go_enter Try.func11, Try.ntmps11
  go_wp2_with fail
  go_ret
  refine ⟨rfl, Joins.below_alloc1 _ _, [], .slice none 0 0, .slice none 0 0, 0, 0, World.alloc_heap_new w _, rfl, fun r hr => by simp [Value.ownBlock] at hr, fun r hr => by simp [Value.ownBlock] at hr, fun i hi => by rw [hi]; simp, ⟨rfl, Or.inl ⟨rfl, rfl⟩⟩, ⟨rfl, Or.inl ⟨rfl, rfl⟩⟩, isBal_nil, rfl, fun i h1 => absurd h1 (Nat.not_lt_zero _), by simp, BsOk.nil⟩

theorem rbalances_any (T : Nat → Prop) (g : Nat) (Bs : List BookT) (rs : List RawT) (w : World) (h : RefAt w T g Bs rs) :
    Calls Try.prog 16 #[.pointer (some ⟨g, 0, none⟩)] w fun e w' => ∃ la n c L, e = .returned (.slice la n c) ∧ (w = w' ∧ Posts w la n L) ∧ IsBal L (balS Bs) ∧ n ≤ 2000 := by
  obtain ⟨L, va, vb, n, m, hc⟩ := h
  have HC := Lib.hid hc
  obtain ⟨lb, cb, rfl, ho⟩ := OwnRecs.of_row hc.sums
  have g1 : w.cell? ⟨g, 1, none⟩ = some (.slice lb m cb) := by rw [cell_of_row _ _ _ _ _ _ hc.box]; rfl
  have HO := Lib.hid ho
  clear hc ho
  go_enter Try.func16, Try.ntmps16
  go_wp2_with fail
  go_ret
  exact ⟨lb, m, cb, L, rfl, ⟨rfl, HO.out.recs⟩, HC.out.bal, by have := HC.out.few; have := HC.out.ok.len; omega⟩

theorem rbookings_any (T : Nat → Prop) (g : Nat) (Bs : List BookT) (rs : List RawT) (w : World) (h : RefAt w T g Bs rs) :
    Calls Try.prog 21 #[.pointer (some ⟨g, 0, none⟩)] w fun e w' => ∃ la n c, e = .returned (.slice la n c) ∧ w = w' ∧ Recs RawE w la n rs := by
  obtain ⟨L, va, vb, n, m, hc⟩ := h
  obtain ⟨lb, cb, rfl, ho⟩ := OwnRecs.of_row hc.rows
  have g1 : w.cell? ⟨g, 0, none⟩ = some (.slice lb n cb) := by rw [cell_of_row _ _ _ _ _ _ hc.box]; rfl
  have HO := Lib.hid ho
  clear hc ho
  go_enter Try.func21, Try.ntmps21
  go_wp2_with fail
  go_ret
  exact ⟨lb, n, cb, rfl, rfl, HO.out.recs⟩

theorem isBal_none {L : List PostT} {f : AccT → Int} (h : IsBal L f) {a : AccT} (hn : ∀ j, j < L.length → (pk L j, pn L j) ≠ a) : f a = 0 := by
  refine Classical.byContradiction fun hne => ?_
  obtain ⟨j, hj, e⟩ := List.getElem_of_mem (h.all a hne)
  have := post_eq L j hj
  rw [e] at this
  exact hn j hj (congrArg Prod.fst this).symm

set_option maxRecDepth 10000 in
set_option maxHeartbeats 1600000 in
theorem rbalance_any (T : Nat → Prop) (g : Nat) (Bs : List BookT) (rs : List RawT) (k : Int) (t : Name) (w : World) (h : RefAt w T g Bs rs) :
    Calls Try.prog 18 #[.pointer (some ⟨g, 0, none⟩), .agg #[.int .i64 k, .string (bs t)]] w fun e w' => e = .returned (.int .i64 (balS Bs (k, t))) ∧ Below w.heap.size w w' := by
  obtain ⟨w1, hw1⟩ : ∃ w1, w1 = w.alloc (.cells #[.int .i64 k, .string (bs t)] 39) := ⟨_, rfl⟩
  have hb := Joins.below_alloc1 w (.cells #[.int .i64 k, .string (bs t)] 39)
  have hn := World.alloc_heap_new w (.cells #[.int .i64 k, .string (bs t)] 39)
  rw [← hw1] at hb hn
  have HB := Lib.hid hb
  obtain ⟨L, va, vb, n, m, hc⟩ := h.below hb
  have HC := Lib.hid hc
  obtain ⟨lb, cb, rfl, ho⟩ := OwnRecs.of_row hc.sums
  have g1 : w1.cell? ⟨g, 1, none⟩ = some (.slice lb m cb) := by rw [cell_of_row _ _ _ _ _ _ hc.box]; rfl
  have x0 : w1.cell? ⟨w.heap.size, 0, none⟩ = some (.int .i64 k) := by rw [cell_of_row _ _ _ _ _ _ hn]; rfl
  have x1 : w1.cell? ⟨w.heap.size, 1, none⟩ = some (.string (bs t)) := by rw [cell_of_row _ _ _ _ _ _ hn]; rfl
  have HP := Lib.hid ho.recs
  have hll := ho.1
  have hm : m ≤ 2000 := by have := hc.few; have := hc.ok.len; omega
  clear hb hn hc ho
  go_enter Try.func18, Try.ntmps18
  go_upto_region 1 with fail
  rw [← hw1]
  clear hw1
  go_wp2_with fail
  go_loopw [5] (fun v5 wr => ∃ i : Nat, v5 = .int .i64 i ∧ i ≤ m ∧ Hid (∃ q, wr = w1.drewN q) ∧ Hid (∀ j, j < i → (pk L j, pn L j) ≠ (k, t))) (fun v5 _ => m - (intOf v5).toNat)
  case atStart => exact ⟨0, rfl, Nat.zero_le _, ⟨0, rfl⟩, fun j hj => by omega⟩
  case round =>
    obtain ⟨i, rfl, hi, HQ, HN⟩ := hrel
    have g1' := Below.cell_of (below_q HQ.out) g1
    have x0' := Below.cell_of (below_q HQ.out) x0
    have x1' := Below.cell_of (below_q HQ.out) x1
    by_cases hlt : i < m
    · obtain ⟨b, o, rfl, p0, p1, p2⟩ := Posts.at (posts_q HP.out HQ.out) i hlt
      have hat := HC.out.bal.at (i := i) (by omega)
      by_cases h1 : pk L i = k
      · by_cases h2 : (bs (pn L i)).toList = (bs t).toList
        · have h3 : pn L i = t := by rw [bs_toList, bs_toList] at h2; exact h2
          have HV : Hid (pa L i = balS Bs (k, t)) := by
            show _ = _
            rw [← hat.1, h1, h3]
          clear hat h3
          go_upto_region 6 with fail
          go_quiet (fail)
          go_wp2_with fail
          go_ret
          exact ⟨by rw [HV.out]; rfl, HB.out.trans ((below_q (quiet_more HQ.out _)).mono HB.out.size)⟩
        · have HS : Hid ((pk L i, pn L i) ≠ (k, t)) := fun e => h2 (by rw [show pn L i = t from congrArg Prod.snd e])
          clear hat
          go_upto_region 6 with fail
          go_quiet (fail)
          go_wp2_with fail
          go_roundw
          case rel => exact ⟨i + 1, by go_num, by omega, quiet_more HQ.out _, fun j hj => by
            by_cases e : j = i
            · rw [e]; exact HS.out
            · exact HN.out j (by omega)⟩
          case measure => simp [intOf]; omega
      · have HS : Hid ((pk L i, pn L i) ≠ (k, t)) := fun e => h1 (congrArg Prod.fst e)
        clear hat
        go_upto_region 6 with fail
        go_quiet (fail)
        go_wp2_with fail
        go_roundw
        case rel => exact ⟨i + 1, by go_num, by omega, quiet_more HQ.out _, fun j hj => by
          by_cases e : j = i
          · rw [e]; exact HS.out
          · exact HN.out j (by omega)⟩
        case measure => simp [intOf]; omega
    · have hi' : i = m := by omega
      subst hi'
      have HZ : Hid (balS Bs (k, t) = 0) := isBal_none HC.out.bal (fun j hj => HN.out j (by omega))
      go_wp2_with fail
      go_ret
      exact ⟨by rw [HZ.out]; rfl, HB.out.trans ((below_q HQ.out).mono HB.out.size)⟩
end Go.Proofs.Ytafhdpalobalkaa
