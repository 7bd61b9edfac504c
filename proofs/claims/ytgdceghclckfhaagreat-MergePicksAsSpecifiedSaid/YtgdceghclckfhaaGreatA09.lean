/- From a contract to the model's call. -/
import Derived.Test.YtgdceghclckfhaaGreatA08
import Derived.Test.YtgdceghclckfhaaGreatA02
import Derived.Test.YtgdceghclckfhaaGreatA04
set_option linter.unusedVariables false
set_option linter.unusedSimpArgs false
namespace Go.AM
open Go Go.RowKit
theorem fhE {B : Nat → Prop} (hB : ∀ j, ¬ B j) : FH (fun _ => none) (fun _ => False) B AHeap.empty AHeap.empty :=
  { dom := fun i j e => by cases e
    inj := fun i i' j e => by cases e
    hfre := fun i _ => by simp [AHeap.get, AHeap.empty, Tr.get_leaf]
    gfre := fun i _ => by simp [AHeap.get, AHeap.empty, Tr.get_leaf]
    alt := fun j hj => hj.elim, blt := fun j hj => (hB j hj).elim
    obj := fun i o g => by simp [AHeap.get, AHeap.empty, Tr.get_leaf] at g }
/-- a law without memory among its arguments -/
theorem calls_pure {P : Program} {tbl : Nat → Option AFn} (hm : P.follows .mixedOrders = true) (ht : TblOk P tbl) {f : Nat} {args : List AV} (hc : closedVs args = true) (h : CallV tbl f args AHeap.empty fun r _ => r = .bool true)
    (w : World) {args' : Array Value} (ha : VRs (fun _ => none) args args'.toList) : Calls P f args' w fun e w' => e = .returned (.bool true) ∧ Below w.heap.size w w' := by
  obtain ⟨n, ⟨r', G2⟩, h1, b2, A2, r, H2, g1, g2, g3, rfl⟩ := h _ _ _ _ args (fhE (B := fun _ => False) fun _ h => h) (FVs.closed hc)
  cases g3 with
  | bool =>
    refine (calls_closed hm ht h1 w ha).mono ?_
    rintro e w' ⟨v, β', rfl, k1, k2⟩
    exact ⟨by rw [vr_bool k1], k2⟩
end Go.AM
namespace Go.AM.T
open Go Go.AM Go.Proofs Go.RowKit
theorem follows : Tryz.prog.follows .mixedOrders = true := by kernel_rfl
end Go.AM.T
/- From a contract to the model's call, where the argument is a list of numbers. -/
namespace Go.AM
open Go Go.RowKit
theorem fhL {o : AObj} : FH (fun _ => none) (fun j => j = 0) (fun _ => False) AHeap.empty (AHeap.empty.push o) :=
  { dom := fun i j e => by cases e
    inj := fun i i' j e => by cases e
    hfre := fun i _ => by simp [AHeap.get, AHeap.empty, Tr.get_leaf]
    gfre := fun i hi => by
      have hi' : 1 ≤ i := hi
      rw [get_push_ne _ _ _ (show i ≠ AHeap.empty.nx by show i ≠ 0; omega)]
      simp [AHeap.get, AHeap.empty, Tr.get_leaf]
    alt := fun j hj => by subst hj; exact ⟨Nat.zero_lt_one, fun h => h⟩
    blt := fun j hj => hj.elim
    obj := fun i o g => by simp [AHeap.get, AHeap.empty, Tr.get_leaf] at g }
theorem calls_list {P : Program} {tbl : Nat → Option AFn} (hm : P.follows .mixedOrders = true) (ht : TblOk P tbl) {f : Nat} {l : List Int} (h : CallV tbl f [lstE 1 encI l] AHeap.empty fun r _ => r = .bool true)
    (w : World) {a : Option Addr} {len cap : Nat} (row : (a = none ∧ len = 0 ∧ cap = 0 ∧ l = []) ∨ ∃ (b o : Nat) (c : Array Value) (t : TypeId) (fz : Nat × Nat) (zs : List Int), a = some ⟨b, o, none⟩ ∧ len ≤ cap ∧ w.heap[b]? = some (.cells c t fz) ∧
      zs.length = cap ∧ (∀ i, i < zs.length → c[o + i]? = some (.int .i64 (zs.getD i 0))) ∧ l = zs.take len) :
    Calls P f #[.slice a len cap] w fun e w' => e = .returned (.bool true) ∧ Below w.heap.size w w' := by
  rcases row with ⟨rfl, rfl, rfl, rfl⟩ | ⟨b, o, c, t, fz, zs, rfl, hlc, hb, hz, hcell, rfl⟩
  · obtain ⟨n, ⟨r', G2⟩, h1, b2, A2, r, H2, g1, g2, g3, rfl⟩ := h _ _ _ _ [.nilsl] (fhE (B := fun _ => False) fun _ h => h) (.cons _ _ _ _ (.lst0 1) .nil)
    cases g3 with
    | bool =>
      refine (calls_closed hm ht h1 w (args' := #[.slice none 0 0]) (.cons _ _ _ _ .nilsl .nil)).mono ?_
      rintro e w' ⟨v, β', rfl, k1, k2⟩
      exact ⟨by rw [vr_bool k1], k2⟩
  · have hfl : ∀ m : List Int, (m.flatMap encI) = m.map fun x => .int .i64 x := fun m => by
      induction m with
      | nil => rfl
      | cons x m ih => rw [List.flatMap_cons, ih]; rfl
    obtain ⟨s, hs1, hs2, hs3⟩ : ∃ s, (cap = 0 ∨ o = s) ∧ s + cap ≤ c.size ∧ ∀ i, i < zs.length → c[s + i]? = some (.int .i64 (zs.getD i 0)) := by
      by_cases h0 : cap = 0
      · exact ⟨0, .inl h0, by omega, fun i hi => by omega⟩
      · have := (Array.getElem?_eq_some_iff.1 (hcell (cap - 1) (by omega))).1
        exact ⟨o, .inr rfl, by omega, hcell⟩
    have hG : (AHeap.empty.push (.cells (zs.map fun x => AV.int .i64 x) .ro)).get 0 = some (.cells (zs.map fun x => AV.int .i64 x) .ro) := get_push_same AHeap.empty _
    have hr : rangeOf 0 (len * 1) (zs.map fun x => AV.int .i64 x) = some ((zs.take len).map fun x => AV.int .i64 x) :=
      rangeOf_iff.2 ⟨by rw [List.length_map]; omega, by rw [List.drop_zero, List.map_take, Nat.mul_one]⟩
    have hln : (zs.take len).length = len := by rw [List.length_take]; omega
    have hk : FVs (fun _ => none) (fun j => j = 0) (AHeap.empty.push (.cells (zs.map fun x => AV.int .i64 x) .ro)) ((zs.take len).flatMap encI) ((zs.take len).map fun x => AV.int .i64 x) := by
      rw [hfl]
      refine FVs.closed ?_
      generalize zs.take len = m
      induction m with
      | nil => rfl
      | cons x m ih => simp only [List.map_cons, closedVs, closedV, ih, Bool.and_self]
    have hv : FV (fun _ => none) (fun j => j = 0) (AHeap.empty.push (.cells (zs.map fun x => AV.int .i64 x) .ro)) (lstE 1 encI (zs.take len)) (.sl 0 0 len cap 1 true) := by
      have := FV.lst (b := fun _ => none) (A := fun j => j = 0) 1 len ((zs.take len).flatMap encI) 0 0 cap true _ _ _ rfl hG hr hlc hk
      unfold lstE
      rw [hln]; exact this
    obtain ⟨n, ⟨r', G2⟩, h1, b2, A2, r, H2, g1, g2, g3, rfl⟩ := h _ _ _ _ [.sl 0 0 len cap 1 true] fhL (.cons _ _ _ _ hv .nil)
    cases g3 with
    | bool =>
      have hR : HR P w.heap.size w [] (fun i => if i = 0 then some (b, s, c.size) else none) (AHeap.empty.push (.cells (zs.map fun x => AV.int .i64 x) .ro)) w :=
        { below := Below.refl _ _, base := Nat.le_refl _
          dom := fun i x e => by
            by_cases hi : i = 0
            · subst hi; exact Nat.zero_lt_one
            · simp [hi] at e
          free := fun i hi => by
            have hi' : 1 ≤ i := hi
            rw [get_push_ne _ _ _ (show i ≠ AHeap.empty.nx by show i ≠ 0; omega)]
            simp [AHeap.get, AHeap.empty, Tr.get_leaf]
          inj := fun i j x y o u hij ei ej => by
            by_cases hi : i = 0
            · by_cases hj : j = 0
              · omega
              · simp [hj] at ej
            · simp [hi] at ei
          obj := fun i x o' e g => by
            by_cases hi : i = 0
            · subst hi
              simp at e; subst e
              rw [hG] at g; cases g
              refine ⟨c, t, fz, hb, rfl, by rw [List.length_map]; show s + zs.length ≤ c.size; omega, fun k v hkv => ?_, fun e => by cases e⟩
              have hkl : k < zs.length := by have := (List.getElem?_eq_some_iff.1 hkv).1; simpa using this
              rw [List.getElem?_map, List.getElem?_eq_getElem hkl] at hkv
              simp at hkv; subst hkv
              refine ⟨_, hs3 k hkl, ?_⟩
              have : zs.getD k 0 = zs[k] := by rw [List.getD_eq_getElem?_getD, List.getElem?_eq_getElem hkl]; rfl
              rw [this]
              exact .int _ _
            · simp [hi] at e
          prs := fun d hd => by cases hd
          blk := fun i x e => by
            by_cases hi : i = 0
            · subst hi; simp at e; subst e; exact (Array.getElem?_eq_some_iff.1 hb).1
            · simp [hi] at e }
      have ha : VRs (fun i => if i = 0 then some (b, s, c.size) else none) [.sl 0 0 len cap 1 true] (#[Value.slice (some ⟨b, o, none⟩) len cap] : Array Value).toList :=
        .cons _ _ _ _ (.sl 0 0 len cap 1 true b s c.size o cap rfl hlc (Nat.le_refl _) (fun _ => rfl) (hs1.imp id fun e => by omega) (by omega)) .nil
      refine (calls_hr hm ht h1 hR ha).mono ?_
      rintro e w' ⟨v, β', rfl, _, k2, k1⟩
      exact ⟨by rw [vr_bool k1], k2.below⟩
end Go.AM
