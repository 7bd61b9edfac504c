/- For every list of numbers the law MergePicksAsSpecified returns true, and its argument reads afterwards as it read before. -/
import Derived.Test.YtgdceghclckfhaaGreatRows
import Derived.Test.YtgdceghclckfhaaGreatA09
import Derived.Test.YtgdceghclckfhaaGreatA07
import Derived.WalkKit
import Derived.ProofKit
import Derived.OpenShut
import Derived.ShutString
import Derived.ChangeOld
import Derived.ChangeSlices
import Derived.Below
import Derived.SizedLaws
set_option linter.unusedVariables false
set_option linter.unusedSimpArgs false
namespace Go.Proofs.YtgdceghclckfhaaGreat.mergePicksAsSpecified
open Go.ChangeShapes Go.WideShapes Go.ChangeAt Go.RowKit
set_option linter.unusedVariables false
theorem own : ownKnob Tryz.prog.godebug = none := by kernel_rfl
theorem laidOut : laidOutB Tryz.prog = true := by kernel_rfl
/-- what the reading of the argument says of memory -/
def IsRow (W : World) (a : Option Addr) (len cap : Nat) (l : List Int) : Prop :=
  (a = none ∧ len = 0 ∧ cap = 0 ∧ l = []) ∨ ∃ (b o : Nat) (c : Array Value) (t : TypeId) (fz : Nat × Nat) (zs : List Int), a = some ⟨b, o, none⟩ ∧ len ≤ cap ∧ W.heap[b]? = some (.cells c t fz) ∧
    zs.length = cap ∧ (∀ i, i < zs.length → c[o + i]? = some (.int .i64 (zs.getD i 0))) ∧ l = zs.take len
set_option maxRecDepth 100000 in
theorem lifted (os : Os) (started : os.Started) (H : Type) (enc : TypeId × Value → H) :
    ReturnsInHanded {} Tryz.checked os 3 .any (Rows.mergePicksAsSpecifiedSpec.pre6 enc Tryz.prog Tryz.f3 Rows.mergePicksAsSpecifiedRow.domain false) (Rows.mergePicksAsSpecifiedSpec.post enc Tryz.prog Tryz.f3 false true false false) := by
  refine returnsInHanded_of_change_sized (C := Tryz.checked) own started (by kernel_rfl) Tryz.func3
    (ChangeSpec.witness6 (enc := enc) (C := Tryz.checked) false ⟨#[], #[.slice none 0 0], []⟩ 8 (by kernel_rfl) (by kernel_rfl) (by kernel_rfl) (by kernel_rfl)) ?_
  intro W base args ds gs before hval0 hW hcnd hsz0 _
  have hval : ∀ (j : Nat) t v, Tryz.f3.params[j]? = some t → args[j]? = some v → Value.okWide Tryz.prog W .any base t v := hval0
  have hW' := hW
  obtain ⟨p, q, hA0, hV, rfl, hfz, hnd⟩ := hW
  have hA : DataW.TrodAll enc Tryz.prog W 0 (fun _ => true) true Tryz.f3.params.toList args.toList ds p := hA0
  have hsz : (DataW.weightsEach Tryz.prog (Tryz.f3.params.toList ++ Rows.mergePicksAsSpecifiedSpec.plain.varTypes Tryz.prog) (ds ++ gs)).all (· ≤ reachBytes) = true := hsz0
  rw [Tryz.params3] at hA hval hsz
  obtain ⟨v0, vs0, d0, ds0, p0, q0, hargs, rfl, rfl, h0, r0⟩ := trodAll_cons hA
  obtain ⟨rfl, rfl, rfl⟩ := trodAll_nil r0
  obtain rfl : args = #[v0] := by cases args; simp_all
  obtain ⟨rfl, rfl⟩ := trodVars_none hV
  have ok0 := hval 0 22 v0 rfl rfl
  obtain ⟨a0, len0, cap0, rfl⟩ := okWide_slice Tryz.underlying22 ok0
  have k0 := h0
  have lt0 : ∀ x ∈ p0, x.block < W.heap.size := by obtain ⟨m, hm⟩ := k0; exact DataW.trod_lt m _ _ _ hm
  obtain ⟨l, hl, hrow⟩ : ∃ l : List Int, l.length ≤ 1125899906842624 ∧ IsRow W a0 len0 cap0 l := by
    obtain ⟨fuel, hf⟩ := h0
    rcases open_ints Tryz.underlying22 Tryz.underlying3 (by kernel_rfl) hf with ⟨hcs, _⟩ | ⟨x, len1, c1, zs, hcs, _, hlc, hm, hz, hx, hcell, hwz⟩
    · simp [Value.cells] at hcs
      obtain ⟨rfl, rfl, rfl⟩ := hcs
      exact ⟨[], by simp, .inl ⟨rfl, rfl, rfl, rfl⟩⟩
    · simp [Value.cells] at hcs
      obtain ⟨rfl, rfl, rfl⟩ := hcs
      simp only [if_true] at hz
      simp only [Value.okWide, Tryz.underlying22, Cell.okWide, Cell.ok, World.has] at ok0
      obtain ⟨_, _, _, hsp, row, cells, hsh, _⟩ := ok0
      obtain ⟨b, o, sp⟩ := x
      simp only at hsp hsh
      subst hsp
      unfold World.shape? at hsh
      split at hsh <;> first | (cases hsh; done) | skip
      rename_i c t fz hb
      refine ⟨_, ?_, .inr ⟨b, o, c, t, fz, zs, rfl, hlc, hb, hz, fun i hi => ?_, rfl⟩⟩
      · obtain ⟨hx, _⟩ := Prod.mk.inj hx
        subst hx
        have z := sized_slice hsz (j := 0) (t := 22) rfl rfl Tryz.underlying22
        have hrb : reachBytes = 140737488351232 := rfl
        have hB : Tryz.prog.bytesOf 3 = 8 := by kernel_rfl
        rw [hB] at z
        simp only [lits, List.length_map] at z
        have h1 : (zs.take len0).length + (zs.drop len0).length = zs.length := by rw [← List.length_append, List.take_append_drop]
        omega
      · have := hcell i hi
        unfold World.cell? Addr.add at this
        by_cases h0 : i = 0
        · subst h0
          simp only [if_true, hb, Option.isSome_none, Bool.false_eq_true, if_false] at this
          exact this
        · simp only [if_neg h0, hb, Option.isSome_none, Bool.false_eq_true, if_false] at this
          exact this
  clear hA0 hval0 hsz0 hsz
  refine (Go.AM.calls_list Go.AM.T.follows Go.AM.T.tblOk (Go.AM.T.picks_does hl rfl) W hrow).mono fun e W' ⟨he, bel⟩ => ?_
  subst he
  exact ⟨_, rfl, _, _, _, [], _, [], hW', trodAll_mk1 (shut_bool Tryz.underlying4 _), (trodAll_cons_mk (Below.trod laidOut (by kernel_rfl) (of_decide_eq_true (by kernel_rfl)) k0 bel lt0) trodAll_mk0), rfl, bel.frame _, fun h => by cases h⟩
theorem over : Rows.mergePicksAsSpecifiedRow.holds Tryz.pinned (OpenSpec.ofChange Rows.mergePicksAsSpecifiedSpec) :=
  OpenClaim.holds_of_wide 3 Tryz.f3 rfl rfl rfl rfl rfl rfl rfl ⟨rfl, rfl, rfl, rfl, rfl⟩ rfl rfl rfl rfl rfl (by kernel_rfl) Tryz.func3 (by kernel_rfl)
    (of_decide_eq_true (by kernel_rfl)) (by unfold Func.isWrapper; first | (rw [if_pos (by decide +kernel)]; kernel_rfl) | (rw [if_neg (by decide +kernel)]; exact ⟨rfl, rfl⟩))
    (fun os started H enc _ => lifted os started H enc)
theorem proved : Rows.MergePicksAsSpecifiedSaid := over
#print axioms proved
end Go.Proofs.YtgdceghclckfhaaGreat.mergePicksAsSpecified
namespace Go.Proofs.YtgdceghclckfhaaGreat
/-- The row, under a short name, for the claim. -/
theorem mergePicksAsSpecified_holds : Rows.MergePicksAsSpecifiedSaid := mergePicksAsSpecified.proved
end Go.Proofs.YtgdceghclckfhaaGreat
