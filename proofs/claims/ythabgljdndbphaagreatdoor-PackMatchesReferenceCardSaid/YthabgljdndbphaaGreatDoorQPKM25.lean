/- Walks over facts on slots: calls that may panic, panics, deferred calls. -/
import Derived.Test.YthabgljdndbphaaGreatDoorQPKM03
import Derived.Defers
import Derived.Recover
import Derived.WalkSmall

set_option linter.unusedVariables false
set_option linter.unusedSimpArgs false
namespace Go.Proofs.YthabgljdndbphaaGreatDoor
set_option linter.unusedVariables false
section
variable {P : Program} {ops : Array Oper} {Q : Exit → Act → World → Prop} {N : Nat} {ds : List Deferred} {e : List (Nat × Value)} {w : World} {a : Act} {KA : Act → World → Prop} {n : Nat}

theorem then_panic {K : Act → World → Prop} {Q' : Exit → Act → World → Prop} {c : List PanicEntry} : Exit.then K Q' (.panic c) a w = Q' (.panic c) a w := rfl
theorem block_panic {id : Nat} {Q' : Exit → Act → World → Prop} {c : List PanicEntry} : Exit.inBlock id Q' (.panic c) a w = Q' (.panic c) a w := rfl
theorem goto_panic {Q' : Exit → Act → World → Prop} {c : List PanicEntry} : Exit.noGoto Q' (.panic c) a w = Q' (.panic c) a w := rfl
/-- Out of a function by a panic. -/
theorem panic_out {fn : Func} {R : Ending → World → Prop} {c : List PanicEntry} (hF : FrF N [] e a) (h : R (.panicked c) w) : bodyPost P fn R (.panic c) a w := ⟨hF.defers, h⟩

/-- What a call's end leads to, a panic's too. -/
def CallK (N : Nat) (ds : List Deferred) (e : List (Nat × Value)) (d : Option Tmp) (Q : Exit → Act → World → Prop) (a : Act) (KA : Act → World → Prop) (K : Ending → World → Prop) : Prop :=
 (∀ v w', (∀ a', FrF N ds (consD d v e) a' → KA a' w') → K (.returned v) w') ∧ ∀ c w', (FrF N ds e a → Q (.panic c) a w') → K (.panicked c) w'

theorem op_enterP {o : Oper} {d : Option Tmp} {f : FuncId} {vals : Array Value} {w1 : World} (ho : ops[n]? = some o) (hd : o.dst = d) (hN : dstB N d = true) (hF : FrF N ds e a) (hw : wantedF ops e o.guard = some true)
  (hv : ∀ a, FrF N ds e a → (execOp a.eval o).run P w = .ok (.enter f vals) w1)
  (h : ∀ K : Ending → World → Prop, CallK N ds e d Q a KA K → Calls P f vals w1 K) : wpOp P ops Q n KA a w := by
 subst hd
 refine wpOp_of ho hF hw ?_
 unfold Oper.wp
 rw [hv a hF]
 show Calls P f vals w1 _
 refine h _ ⟨fun v w' hK => ?_, fun c w' hq => hq hF⟩
 exact hK _ (hF.put _ _ hN)

theorem op_callP {d : Option Tmp} {f : FuncId} {args : List Operand} {ats : Array TypeId} {ty : TypeId} {pos : String} {after : Array Edge} {g : Option (Nat × Bool)} (vals : List Value)
  (ho : ops[n]? = some { dst := d, op := .call { callee := .value (.func f), args := args.toArray, argTypes := ats }, type := ty, pos := pos, after := after, guard := g }) (hN : dstB N d = true) (hF : FrF N ds e a) (hw : wantedF ops e g = some true)
  (hpl : plainB P f = true) (hv : LooksF e args vals)
  (h : ∀ K : Ending → World → Prop, CallK N ds e d Q a KA K → Calls P f vals.toArray w K) : wpOp P ops Q n KA a w := by
 refine op_enterP (o := { dst := d, op := .call { callee := .value (.func f), args := args.toArray, argTypes := ats }, type := ty, pos := pos, after := after, guard := g }) ho rfl hN hF hw (f := f) (vals := vals.toArray) (w1 := w) (fun a hF => ?_) h
 rw [execOp_call_go]
 have hp := run_plain hpl vals.toArray w
 have h1 : (#[] ++ args.toArray.map a.eval ++ #[] : Array Value) = vals.toArray := by
  rw [← hF.evals args vals hv]
  simp
 rw [h1]
 exact hp
theorem zocP {d : Option Tmp} {f : FuncId} {vals : List Value} (h : ∀ K : Ending → World → Prop, CallK N ds e d Q a KA K → Calls P f vals.toArray w K) (hg : goC ops N e n = some (d, f, vals) := by exact rfl) (hpl : plainB P f = true := by kernel_rfl) (hF : FrF N ds e a) : wpOp P ops Q n KA a w := by
 unfold goC at hg
 split at hg
 ·
  cases hg
 rename_i o ho
 split at hg
 ·
  rename_i f' as ats hop
  split at hg
  ·
   rename_i hw
   cases hN : dstB N o.dst with
   | false => rw [hN] at hg; cases hg
   | true =>
    rw [hN] at hg
    simp only [cond_true] at hg
    split at hg
    ·
     cases hg
    rename_i vs hvs
    cases hg
    obtain ⟨od, oop, oty, opos, oaf, og⟩ := o
    subst hop
    exact op_callP (args := as.toList) vals (by simpa using ho) hN hF hw hpl (valsF_look hvs) h
  ·
   cases hg
 ·
  cases hg
theorem zosP {d : Option Tmp} {f : FuncId} {vals : List Value} {rest : List Nat} (h : ∀ K : Ending → World → Prop, CallK N ds e d Q a (fun a' w' => wpOps P ops Q rest a' w') K → Calls P f vals.toArray w K) (hg : goC ops N e n = some (d, f, vals) := by exact rfl) (hpl : plainB P f = true := by kernel_rfl) (hF : FrF N ds e a) : wpOps P ops Q (n :: rest) a w :=
 seq_one (zocP h hg hpl hF)
theorem op_callvP {d : Option Tmp} {f : FuncId} {x : Operand} {args : List Operand} {ats : Array TypeId} {ty : TypeId} {pos : String} {after : Array Edge} {g : Option (Nat × Bool)} (vals first cap : List Value)
  (ho : ops[n]? = some { dst := d, op := .call { callee := .value x, args := args.toArray, argTypes := ats }, type := ty, pos := pos, after := after, guard := g }) (hN : dstB N d = true) (hF : FrF N ds e a) (hw : wantedF ops e g = some true)
  (hx : slotV e x = some (.func (.func f) first.toArray cap.toArray)) (hpl : plainB P f = true) (hv : LooksF e args vals)
  (h : ∀ K : Ending → World → Prop, CallK N ds e d Q a KA K → Calls P f (first ++ vals ++ cap).toArray w K) : wpOp P ops Q n KA a w := by
 refine op_enterP (o := { dst := d, op := .call { callee := .value x, args := args.toArray, argTypes := ats }, type := ty, pos := pos, after := after, guard := g }) ho rfl hN hF hw (f := f) (vals := (first ++ vals ++ cap).toArray) (w1 := w) (fun a hF => ?_) h
 have hp := run_plain hpl (first ++ vals ++ cap).toArray w
 have h1 : (first.toArray ++ args.toArray.map a.eval ++ cap.toArray : Array Value) = (first ++ vals ++ cap).toArray := by
  rw [← hF.evals args vals hv]
  simp
 unfold execOp
 simp only [resolve, hF.eval hx, Deferred.ofValue, Sem.run_bind, Sem.run_pure, Result.andThen_ok, invoke, h1]
 exact hp
/-- The text's own panic. -/
theorem op_panicP {o : Oper} {x : Operand} {t : TypeId} {v : Value} (ho : ops[n]? = some o) (hop : o.op = .panic x) (hw : wantedF ops e o.guard = some true) (hx : slotV e x = some (.iface t v)) (hF : FrF N ds e a)
  (h : FrF N ds e a → Q (.panic [{ v := .iface t v, recovered := false }]) a w) : wpOp P ops Q n KA a w := by
 refine wpOp_of ho hF hw ?_
 unfold Oper.wp
 have hr : (execOp a.eval o).run P w = .halt (.panic (.iface t v)) w := by
  unfold execOp
  simp only [hop, hF.eval hx]
  rfl
 rw [hr]
 exact h hF
end
end Go.Proofs.YthabgljdndbphaaGreatDoor
