/- From a contract to the model's call. -/
import Derived.Test.YtgdceghclckfhaaGreatA08
import Derived.Test.YtgdceghclckfhaaGreatA07
set_option linter.unusedVariables false
set_option linter.unusedSimpArgs false
namespace Go.AM
open Go Go.RowKit
theorem fhE {B : Nat → Prop} (hB : ∀ j, ¬ B j) : FH (fun _ => none) (fun _ => False) B AHeap.empty AHeap.empty :=
  { dom := fun i j e => by cases e
    inj := fun i i' j e => by cases e
    hfre := fun i _ => by simp [AHeap.get, AHeap.empty, Tr.get_leaf]
    gfre := fun i _ => by simp [AHeap.get, AHeap.empty, Tr.get_leaf]
    alt := fun j hj => hj.elim, blt := fun j hj => (hB j hj).elim
    obj := fun i o g => by simp [AHeap.get, AHeap.empty, Tr.get_leaf] at g }
/-- a law without memory among its arguments -/
theorem calls_pure {P : Program} {tbl : Nat → Option AFn} (hm : P.follows .mixedOrders = true) (ht : TblOk P tbl) {f : Nat} {args : List AV} (hc : closedVs args = true) (h : CallV tbl f args AHeap.empty fun r _ => r = .bool true)
    (w : World) {args' : Array Value} (ha : VRs (fun _ => none) args args'.toList) : Calls P f args' w fun e w' => e = .returned (.bool true) ∧ Below w.heap.size w w' := by
  obtain ⟨n, ⟨r', G2⟩, h1, b2, A2, r, H2, g1, g2, g3, rfl⟩ := h _ _ _ _ args (fhE (B := fun _ => False) fun _ h => h) (FVs.closed hc)
  cases g3 with
  | bool =>
    refine (calls_closed hm ht h1 w ha).mono ?_
    rintro e w' ⟨v, β', rfl, k1, k2⟩
    exact ⟨by rw [vr_bool k1], k2⟩
end Go.AM
namespace Go.AM.T
open Go Go.AM Go.Proofs Go.RowKit
theorem follows : Tryz.prog.follows .mixedOrders = true := by kernel_rfl
theorem moves_calls (n : Int) (h : (Lit.int .u16 n).wf = true) (w : World) : Calls Tryz.prog 5 #[.int .u16 n] w fun e w' => e = .returned (.bool true) ∧ Below w.heap.size w w' := by
  have hb : 0 ≤ n ∧ n ≤ 65535 := by
    have h1 : IntKind.u16.min = 0 := rfl
    have h2 : IntKind.u16.max = 65535 := rfl
    simp [Lit.wf, h1, h2] at h
    omega
  exact calls_pure follows tblOk rfl (moves_does hb.1 hb.2 rfl) w (.cons _ _ _ _ (.int _ _) .nil)
end Go.AM.T
