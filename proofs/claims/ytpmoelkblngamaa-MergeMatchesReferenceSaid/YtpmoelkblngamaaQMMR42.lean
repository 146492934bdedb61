/- merge: a list of blames in memory, one blame more: the reference's add in use. -/
import Derived.Test.YtpmoelkblngamaaQMMR39
import Derived.Test.YtpmoelkblngamaaQMMR41

namespace Go.Proofs.Ytpmoelkblngamaa
open Go.RowKit Go.IntWalk Go.Maps Go.WideMaps

theorem own_ne2 {w : World} {B k n r : Nat} {T U : TypeId} {v : Value} {xs : List Value} {arr : Array Value} {x : Nat × Nat} (h : w.ownsRow B T k v n xs) (hg : w.heap[r]? = some (.cells arr U x)) (hT : T ≠ U) (hr : v.ownBlock = some r) : False := by
  rcases h.2 with ⟨rfl, _⟩ | ⟨g, cap, cur, rfl, _, e, _⟩
  · cases hr
  · cases hr
    exact type_ne e hg hT rfl

/-- A list of the blames that Q says, in memory of the call's own. -/
def BlO (w1 : World) (len : Nat) (Q : Blm → Prop) (v : Value) (wx : World) : Prop := ∃ O : List Blm, wx.ownsRow w1.heap.size 48 6 v O.length (flat BlmE O) ∧ Strict KB O ∧ O.length ≤ len ∧ (∀ b, b ∈ O ↔ Q b) ∧ Below w1.heap.size w1 wx

theorem BlO.below {w1 wx : World} {len : Nat} {Q : Blm → Prop} {v : Value} (h : BlO w1 len Q v wx) : Below w1.heap.size w1 wx := let ⟨_, _, _, _, _, h⟩ := h; h
theorem BlO.down {w1 wx w' : World} {len : Nat} {Q : Blm → Prop} {v : Value} (h : BlO w1 len Q v wx) (hb : Below wx.heap.size wx w') : BlO w1 len Q v w' :=
  let ⟨O, a, b, c, d, e⟩ := h; ⟨O, row_of_heap a fun r hr => hb.block r (a.lt r hr).2, b, c, d, e.trans (hb.mono e.size)⟩
theorem BlO.iff {w1 wx : World} {len len' : Nat} {Q Q' : Blm → Prop} {v : Value} (h : BlO w1 len Q v wx) (hl : len ≤ len') (hq : ∀ b, Q b ↔ Q' b) : BlO w1 len' Q' v wx :=
  let ⟨O, a, b, c, d, e⟩ := h; ⟨O, a, b, Nat.le_trans c hl, fun x => (d x).trans (hq x), e⟩
theorem BlO.start (w1 : World) : BlO w1 0 (fun _ => False) (.slice none 0 0) w1 := ⟨[], ⟨rfl, Or.inl ⟨rfl, rfl⟩⟩, List.Pairwise.nil, Nat.le_refl _, fun b => by simp, Below.refl _ _⟩

/-- Whether the title came in elsewhere; here, with another number. -/
def d1B (x : Scn) (T : Option Scn) : Bool := match T with
  | some t => decide (t.kind = 1) && !decide (t.gate = x.gate)
  | none => false
def d2B (x : Scn) (T : Option Scn) : Bool := match T with
  | some t => decide (t.kind = 1) && (decide (t.gate = x.gate) && !decide (t.number = x.number))
  | none => false

/-- A blame that is built. -/
theorem blm_build (a b c d e f : Int) (w : World) : (Instr.build 48 #[(0, .int .i64 a), (1, .int .i64 b), (2, .int .i64 c), (3, .int .i64 d), (4, .int .i64 e), (5, .int .i64 f)]).run Try.prog w = .ok (.agg #[.int .i64 a, .int .i64 b, .int .i64 c, .int .i64 d, .int .i64 e, .int .i64 f]) w := by kernel_rfl

/-- A struct value is built by an operation. -/
theorem exec_build {P : Program} (ρ : Operand → Value) (o : Oper) {t : TypeId} (parts : Array (Nat × Operand)) (hop : o.op = .build t parts) (vs : Array (Nat × Value)) (hvs : (parts.map fun q => (q.1, ρ q.2)) = vs) {v : Value} {w : World} (hr : (Instr.build t vs).run P w = .ok v w) : (execOp ρ o).run P w = .ok (.value v) w := by
  subst hvs
  unfold execOp
  simp only [hop, Sem.run_bind, Sem.run_pure]
  show Result.andThen ((Instr.build t (parts.map fun q => (q.1, ρ q.2))).run P w) _ = _
  rw [hr]
  rfl

/-- What add leaves. -/
def BloPost (w1 : World) (len : Nat) (Q : Blm → Prop) (wx : World) (e : Ending) (w' : World) : Prop := ∃ v', e = .returned v' ∧ BlO w1 len Q v' w' ∧ ∀ (g : Nat) (arr : Array Value) (T : TypeId) (x : Nat × Nat), wx.heap[g]? = some (.cells arr T x) → T ≠ 48 → w'.heap[g]? = some (.cells arr T x)

theorem blo_add {w1 wx : World} {len : Nat} {Q : Blm → Prop} {v : Value} (h : BlO w1 len Q v wx) (hl : len ≤ 900000) (y : Blm) :
    Calls Try.prog 45 #[v, .agg #[.int .i64 y.kind, .int .i64 y.serial, .int .i64 y.gate, .int .i64 y.number, .int .i64 y.other, .int .i64 y.count]] wx (BloPost w1 (len + 1) (fun b => b = y ∨ Q b) wx) := by
  obtain ⟨O, a, b, c, d, e⟩ := h
  refine (add_any wx v w1.heap.size O y a e.size (by omega) b).mono ?_
  rintro en w' ⟨v', rfl, ho, hg⟩
  refine ⟨v', rfl, ⟨insK KB y O, ho, insK_strict KB y b, Nat.le_trans (insK_len b y) (by omega), fun z => ?_, e.grown hg e.size (fun k hk => (a.lt k hk).1)⟩, fun g arr T x hgx hT => ?_⟩
  · rw [insK_mem, d z]
  · exact (hg.block g (lt_of_block hgx) (fun e => own_ne2 a hgx (fun h => hT h.symm) e.symm)).trans hgx
end Go.Proofs.Ytpmoelkblngamaa
