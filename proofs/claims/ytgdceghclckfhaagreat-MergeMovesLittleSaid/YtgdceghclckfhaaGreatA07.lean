/- sanity: it returns true, wherever it starts. -/
import Derived.Test.YtgdceghclckfhaaGreatA02
import Derived.Test.YtgdceghclckfhaaGreatA04
import Derived.Test.YtgdceghclckfhaaGreatA06
import Derived.Test.YtgdceghclckfhaaGreatA05
set_option linter.unusedVariables false
set_option linter.unusedSimpArgs false
namespace Go.AM.T
open Go Go.AM
theorem closed7 {n : Nat} (h : isTrue ((runR tbl n).call 7 [] AHeap.empty) = true) {H : AHeap} {R : AV → AHeap → Prop} (hp : R (.bool true) H) : CallV tbl 7 [] H R :=
  closed_call (fun _ _ e => tokC e) h hp
theorem sane_ex : ∃ n, isTrue ((runR tbl n).call 7 [] AHeap.empty) = true := ⟨1000000, sane⟩
theorem sanity_does {H : AHeap} {R : AV → AHeap → Prop} (h : R (.bool true) H) : CallV tbl 7 [] H R := by
  obtain ⟨n, hs⟩ := sane_ex
  exact closed7 hs h
end Go.AM.T
/- MergeMovesLittle, in the abstract machine: it returns true. -/
namespace Go.AM.T
open Go Go.AM

/-- the law's rounds, in plain Lean -/
def runM : Nat → Nat → List Int → Int → Bool
  | 0, _, _, _ => true
  | d + 1, i, l, m =>
    let s := settleM (l ++ [1])
    decide (0 ≤ s.2) && decide (s.2 ≤ 100000) && decide (m + s.2 ≤ 7 * (i : Int)) && Nat.ble s.1.length (12 + i / 1025) && s.1.all (fun x => decide (0 ≤ x) && decide (x ≤ 4096)) && runM d (i + 1) s.1 (m + s.2)
theorem runM_ok : runM 400 1 [] 0 = true := by decide +kernel

theorem app0 {H : AHeap} {v : AV} {l : List Int} (hv : (v = .nilsl ∧ l = []) ∨ v = lstE 1 encI l) (hl : l.length ≤ 1000) :
    ∃ v' H' j, appendOp 1 8 (.sl H.nx 0 0 0 1 true) v (lay [] H) = some (v', H') ∧ Spr H' v' j l ∧ H.nx ≤ j ∧ j < H'.nx ∧ ∀ i, i < H.nx → H'.get i = H.get i := by
  by_cases hnil : l = []
  · subst hnil
    refine ⟨.sl H.nx 0 0 0 1 true, lay [] H, H.nx, ?_, ⟨[], true, rfl, get_push_same .., rfl⟩, Nat.le_refl _, by simp [lay], fun i hi => get_push_ne _ _ _ (by omega)⟩
    rcases hv with ⟨rfl, _⟩ | rfl <;> rfl
  · rcases hv with ⟨_, h⟩ | rfl
    · exact absurd h hnil
    have hpos : 0 < l.length := List.length_pos_iff.2 hnil
    refine ⟨.sl (H.nx + 1) 0 l.length l.length 1 false, (lay [] H).push (.cells (l.flatMap encI) .own), H.nx + 1, ?_, ⟨[], false, by simp, by rw [List.append_nil]; exact get_push_same (lay [] H) _, rfl⟩, by omega, by simp [lay], fun i hi => ?_⟩
    · have b3 : Nat.ble l.length 0 = false := by
        cases e : Nat.ble l.length 0 with
        | false => rfl
        | true => have := Nat.le_of_ble_eq_true e; omega
      have b4 : Nat.ble ((l.length + 1) * 8) most = true := Nat.ble_eq_true_of_le (by unfold most; omega)
      have hlen : lenOf (lstE 1 encI l) = some l.length := rfl
      have hg : (lay [] H).get H.nx = some (.cells [] .own) := get_push_same ..
      have hr : rangeOf 0 (0 * 1) ([] : List AV) = some [] := by simp [rangeOf, dropN, takeN]
      have b1 : Nat.ble 1 1 = true := rfl
      have b2 : Nat.ble 1 8 = true := rfl
      simp only [appendOp, hlen, lstE_cells (enc := encI) lenI, allCells_flat (enc := encI) (fun _ => rfl), b1, b2, Bool.and_self, if_true, appTo, Nat.beq_refl, Nat.zero_add, b3, Bool.false_eq_true, if_false, hg, appOut, hr, appNew, b4, List.nil_append]
      rfl
    · rw [get_push_ne _ _ _ (by simp [lay]; omega)]; exact get_push_ne _ _ _ (by omega)

theorem moves_loop {k : List KI} (hn : noD k = true) {Q : AExit → Fr → AHeap → Prop} {H0 : AHeap} {n : Int} {N : Nat} (hN : N ≤ 400) (hrem : bin .rem (iv n) (iv 401) = some (iv N)) (hn0 : InR n)
    (hk : ∀ T' H', (∀ i, i < H0.nx → H'.get i = H0.get i) → GoW tbl Q k (.exit 0) T' H') :
    ∀ (d i : Nat) (l : List Int) (m : Int) (v : AV) (T : Fr) (H : AHeap), runM d i l m = true → i + d = 401 → 1 ≤ i → (v = .nilsl ∧ l = []) ∨ v = lstE 1 encI l → l.length ≤ 900 → (∀ x, x ∈ l → 0 ≤ x ∧ x ≤ 4096) → 0 ≤ m → m ≤ 7 * (i : Int) →
      H0.nx ≤ H.nx → (∀ i, i < H0.nx → H.get i = H0.get i) → gN T 0 = .int .u16 n → gN T 3 = v → gN T 4 = iv m → gN T 5 = iv i → GoS tbl (.code (.loop kc_law33_MergeMovesLittle_l0) :: k) .normal T H Q := by
  intro d
  induction d with
  | zero =>
    intro i l m v T H hr hi h1 hv hl hx hm hm7 nx keep t0 t3 t4 t5
    refine GoS.loopD (a' := c_law33_MergeMovesLittle_l0) rfl (GoW.sound ?_)
    have cv : opConvI .i64 (.int .u16 n) = some (iv n) := convI_in hn0
    simp (disch := (first | omega | (unfold InR; omega))) only [c_law33_MergeMovesLittle_l0, go_sem, ↓reduceIte, Nat.reduceEqDiff, t0, t5, cv, hrem, dT, dF, Bool.false_eq_true]
    exact hk _ _ keep
  | succ d ih =>
    intro i l m v T H hr hi h1 hv hl hx hm hm7 nx keep t0 t3 t4 t5
    refine GoS.loopD (a' := c_law33_MergeMovesLittle_l0) rfl (GoW.sound ?_)
    have cv : opConvI .i64 (.int .u16 n) = some (iv n) := convI_in hn0
    by_cases hiN : N < i
    · simp (disch := (first | omega | (unfold InR; omega))) only [c_law33_MergeMovesLittle_l0, go_sem, ↓reduceIte, Nat.reduceEqDiff, t0, t5, cv, hrem, dT, dF, Bool.false_eq_true]
      exact hk _ _ keep
    · simp only [runM, Bool.and_eq_true, decide_eq_true_eq] at hr
      obtain ⟨⟨⟨⟨⟨r1, r2⟩, r3⟩, r4⟩, r5⟩, r6⟩ := hr
      have r4 := Nat.le_of_ble_eq_true r4
      have r5 : ∀ x, x ∈ (settleM (l ++ [1])).1 → 0 ≤ x ∧ x ≤ 4096 := fun x hx => by
        have := List.all_eq_true.1 r5 x hx
        simpa using this
      have e1 : opBslice 1 0 [] [] H = some (.sl H.nx 0 0 0 1 true, lay [] H) := rfl
      obtain ⟨v1, H1, j1, a1, a2, a3, a4, a5⟩ := app0 (H := H) hv (by omega)
      have e2 : opBslice 1 1 [iv 0] [(0, 1, iv 1)] H1 = some (.sl H1.nx 0 1 1 1 true, lay [iv 1] H1) := rfl
      have a2' : Spr (lay [iv 1] H1) v1 j1 l := by
        obtain ⟨post, ex, w1, w2, w3⟩ := a2
        exact ⟨post, ex, w1, (get_push_ne _ _ _ (by omega)).trans w2, w3⟩
      obtain ⟨v2, H2, j2, b1, b2, b3, b4, b5, b6⟩ := spr_append (x := 1) (k := H1.nx) a2' (by simp [lay]; omega) (by omega) (get_push_same ..)
      have nx1 : (lay [iv 1] H1).nx = H1.nx + 1 := rfl
      have keep2 : ∀ i, i < H0.nx → H2.get i = H0.get i := fun q hq => by
        rw [b6 q (by omega) (by omega)]
        exact (get_push_ne _ _ _ (by omega)).trans ((a5 q (by omega)).trans (keep q hq))
      simp (disch := (first | omega | (unfold InR; omega))) only [c_law33_MergeMovesLittle_l0, go_sem, ↓reduceIte, Nat.reduceEqDiff, Nat.reduceAdd, t0, t3, t4, t5, cv, hrem, dT, dF, Bool.false_eq_true, e1, a1, e2, b1]
      obtain ⟨post, ex, w1, w2, w3⟩ := b2
      have hl1 : (l ++ [1]).length = l.length + 1 := by simp
      have hflen := flat_len (enc := encI) lenI (l ++ [1])
      subst w1
      refine GoS.freeze (i := j2) (by simp only [noD]) w2 (fz1_set (q := 20) (v := lstE 1 encI (l ++ [1])) ?_) ?_
      · simp only [go_sem, ↓reduceIte, Nat.reduceEqDiff]
        exact .sl 0 _ _ 1 ex _ (rangeOf_iff.2 ⟨by have : ((l ++ [1]).flatMap encI ++ post).length = ((l ++ [1]).flatMap encI).length + post.length := List.length_append; omega, by rw [List.drop_zero, List.take_append_of_le_length (by omega), List.take_of_length_le (by omega)]⟩) (by omega)
      refine GoS.call ?_
      simp only [go_sem, ↓reduceIte, Nat.reduceEqDiff]
      refine settle_does (by omega) (fun x hx' => ?_) (GoW.sound ?_)
      · rcases List.mem_append.1 hx' with h | h
        · exact hx x h
        · rw [List.mem_singleton] at h; subst h; omega
      have x0 : opExtract (.tup [lstE 1 encI (settleM (l ++ [1])).1, iv (settleM (l ++ [1])).2]) 0 = some (lstE 1 encI (settleM (l ++ [1])).1) := rfl
      have x1 : opExtract (.tup [lstE 1 encI (settleM (l ++ [1])).1, iv (settleM (l ++ [1])).2]) 1 = some (iv (settleM (l ++ [1])).2) := rfl
      generalize settleM (l ++ [1]) = s at *
      obtain ⟨s1, s2⟩ := s
      simp only at r1 r2 r3 r4 r5 r6 x0 x1
      have q1 : bin .quo (iv i) (iv 1025) = some (iv ((i / 1025 : Nat) : Int)) := by
        rw [show (i : Int) = ((i : Nat) : Int) from rfl]
        have : (i : Int).tdiv 1025 = ((i / 1025 : Nat) : Int) := by rw [Int.tdiv_eq_ediv_of_nonneg (by omega)]; omega
        rw [bin_quo (by omega) (by rw [this]; unfold InR; omega), this]
      simp (disch := (first | omega | (unfold InR; omega))) only [go_sem, ↓reduceIte, Nat.reduceEqDiff, Nat.reduceAdd, t0, t4, t5, x0, x1, q1, dT, dF, Bool.false_eq_true]
      refine ih (i + 1) s1 (m + s2) _ _ _ r6 (by omega) (by omega) (.inr rfl) (by omega) r5 (by omega) (by omega) ?_ ?_ ?_ ?_ ?_ ?_
      · show H0.nx ≤ H2.nx; omega
      · intro q hq
        rw [get_put_ne _ _ _ _ (by omega)]
        exact keep2 q hq
      all_goals simp only [go_sem, ↓reduceIte, Nat.reduceEqDiff, t0, Int.natCast_add, Int.natCast_one]
theorem moves_does {n : Int} (h0 : 0 ≤ n) (h1 : n ≤ 65535) {H : AHeap} {R : AV → AHeap → Prop} (hR : R (.bool true) H) : CallV tbl 5 [.int .u16 n] H R := by
  refine CallV.fresh fun hf => ?_
  refine T.callW rfl ?_
  simp only [c_law33_MergeMovesLittle, a5, go_sem, ↓reduceIte, Nat.reduceEqDiff, Nat.reduceAdd]
  have hr : n.tmod 401 = ((n % 401).toNat : Int) := by rw [Int.tmod_eq_emod_of_nonneg h0]; omega
  refine moves_loop (N := (n % 401).toNat) (n := n) (H0 := H) rfl (by omega) ?_ (by unfold InR; omega) (fun T' H' keep => ?_) 400 1 [] 0 .nilsl _ _ runM_ok (by omega) (by omega) (.inl ⟨rfl, rfl⟩) (by simp) (fun x h => by cases h) (by omega) (by omega) (Nat.le_refl _) (fun _ _ => rfl) ?_ ?_ ?_ ?_
  · rw [← hr]; exact bin_rem (by omega)
  · simp only [go_sem, ↓reduceIte]
    refine GoS.call ?_
    simp only [go_sem, ↓reduceIte, Nat.reduceEqDiff]
    refine sanity_does (GoW.sound ?_)
    simp only [go_sem, ↓reduceIte, Nat.reduceEqDiff]
    exact Fin.reset hf keep (.pure _ rfl) hR
  all_goals simp only [go_sem, ↓reduceIte, Nat.reduceEqDiff]
  all_goals rfl
end Go.AM.T
