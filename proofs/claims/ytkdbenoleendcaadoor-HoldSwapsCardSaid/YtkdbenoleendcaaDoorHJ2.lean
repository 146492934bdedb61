/- hold: a hold is put into the map. -/
import Derived.Test.YtkdbenoleendcaaDoorHJ
namespace Go.Proofs.YtkdbenoleendcaaDoor
open Go.RowKit Go.IntWalk Go.Maps Go.WideMaps

theorem store_hold {w : World} {M : Nat} {E : List OwnT} (h : w.ownsMap Tryd.prog 3 RH M E.length (mapH E)) (hE : E.length ≤ 1000) (id : Int) (h0 : 0 ≤ id) (h1 : id ≤ 1000000000) (v : Value) :
    ∃ w', (Instr.mapUpdate 61 (.map (some M)) (.int .i64 id) v).run Tryd.prog w = .ok () w' ∧ w'.ownsMap Tryd.prog 3 RH M (E.length + 1) ((mapH E).put (.int .i64 id) (.held v)) ∧ w.mapTurned w' M :=
  h.store lawI Tryd.underlying61 (by unfold maxLen; omega) (key_int id h0 h1) (d := .held v) (ps := []) rfl
end Go.Proofs.YtkdbenoleendcaaDoor
