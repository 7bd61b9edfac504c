/- sanity: it returns true, wherever it starts. -/
import Derived.Test.YtgdceghclckfhaaGreatA02
import Derived.Test.YtgdceghclckfhaaGreatA04
import Derived.Test.YtgdceghclckfhaaGreatA06
import Derived.Test.YtgdceghclckfhaaGreatA05
set_option linter.unusedVariables false
set_option linter.unusedSimpArgs false
namespace Go.AM.T
open Go Go.AM
theorem closed7 {n : Nat} (h : isTrue ((runR tbl n).call 7 [] AHeap.empty) = true) {H : AHeap} {R : AV → AHeap → Prop} (hp : R (.bool true) H) : CallV tbl 7 [] H R :=
  closed_call (fun _ _ e => tokC e) h hp
theorem sane_ex : ∃ n, isTrue ((runR tbl n).call 7 [] AHeap.empty) = true := ⟨1000000, sane⟩
theorem sanity_does {H : AHeap} {R : AV → AHeap → Prop} (h : R (.bool true) H) : CallV tbl 7 [] H R := by
  obtain ⟨n, hs⟩ := sane_ex
  exact closed7 hs h
end Go.AM.T
/- Plain law: what Settle leaves. -/
namespace Go.AM.T
theorem tot_ge {l ps : List Int} (hl : ∀ x, x ∈ l → 1 ≤ x ∧ x ≤ 4096) (hp : ∀ p, p ∈ ps → 0 ≤ p ∧ p < l.length) : (ps.length : Int) ≤ tot l ps := by
  induction ps with
  | nil => exact Int.le_refl _
  | cons p r ih =>
    have h1 := hp p (by simp)
    have h2 := (hl _ (List.mem_of_getElem? (nth_get (l := l) (k := p.toNat) (by omega)))).1
    have h3 := ih fun q hq => hp q (by simp [hq])
    simp only [tot, List.length_cons]
    have h4 : key l p = nth l p.toNat := rfl
    omega
structure SetOk (l : List Int) (m : Int) (s : List Int × Int) : Prop where
  bnd : ∀ x, x ∈ s.1 → 1 ≤ x ∧ x ≤ 4096
  sum : suml s.1 = suml l
  done : (pickM s.1).length = 0
  mv : m ≤ s.2
  mv0 : s.2 = m ↔ (pickM l).length = 0
theorem settleF_ok : ∀ (f : Nat) (l : List Int) (m : Int), l.length ≤ f → (∀ x, x ∈ l → 1 ≤ x ∧ x ≤ 4096) → SetOk l m (settleF f l m) := by
  intro f
  induction f with
  | zero =>
    intro l m hf hl
    have hl0 : l = [] := List.length_eq_zero_iff.1 (by omega)
    have hp : (pickM l).length = 0 := by
      rcases pickM_ok l with e | ok
      · rw [e]; rfl
      · cases hq : pickM l with
        | nil => rfl
        | cons p r => have := ok.mem p (by rw [hq]; simp); rw [hl0] at this; simp at this; omega
    exact ⟨hl, rfl, hp, Int.le_refl _, ⟨fun _ => hp, fun _ => rfl⟩⟩
  | succ f ih =>
    intro l m hf hl
    simp only [settleF]
    split
    · rename_i hp
      exact ⟨hl, rfl, hp, Int.le_refl _, ⟨fun _ => hp, fun _ => rfl⟩⟩
    · rename_i hp
      rcases pickM_ok l with e | ok
      · rw [e] at hp; exact absurd rfl hp
      have oo := outS_ok ok.asc ok.mem
      have ht := tot_ge hl ok.mem
      have hln := ok.len
      have hs := ok.sum
      have hn := next_len hp
      have h := ih (next l (pickM l)) (m + (outS l (pickM l)).2) (by omega) fun x hx => by
        rcases List.mem_append.1 hx with h | h
        · exact hl x (oo.mem x h)
        · rw [List.mem_singleton] at h; subst h; rw [oo.sum]; omega
      have e1 : suml (next l (pickM l)) = suml l := by
        rw [next, suml_append, oo.all, oo.sum]; simp only [suml]; omega
      have h2 := h.mv
      rw [oo.sum] at h2
      refine ⟨h.bnd, h.sum.trans e1, h.done, by rw [oo.sum] at h ⊢; omega, fun e => ?_, fun e => absurd e hp⟩
      rw [oo.sum] at e
      omega
theorem settleM_ok {l : List Int} (hl : ∀ x, x ∈ l → 1 ≤ x ∧ x ≤ 4096) : SetOk l 0 (settleM l) := settleF_ok _ _ _ (Nat.le_refl _) hl
theorem pickF_none {l : List Int} : ∀ (m c : Nat), (pickF l m c).length = 0 → ∀ c', c ≤ c' → c' < c + m → pickC l c' = none := by
  intro m
  induction m with
  | zero => intro c _ c' h1 h2; omega
  | succ m ih =>
    intro c h c' h1 h2
    rw [pickF] at h
    cases hc : pickC l c with
    | some ps => rw [hc] at h; have := (pickC_ok hc).len; simp only at h; omega
    | none =>
      rw [hc] at h
      by_cases e : c' = c
      · rw [e]; exact hc
      · exact ih (c + 1) h c' (by omega) (by omega)
theorem few {l : List Int} (hl : ∀ x, x ∈ l → 1 ≤ x ∧ x ≤ 4096) (h : (pickM l).length = 0) {c : Nat} (hc : c ≤ 3) : (idx l c l.length).length ≤ 3 := by
  have h1 := pickF_none 5 0 h c (by omega) (by omega)
  unfold pickC at h1
  split at h1
  · omega
  · split at h1 <;> first | (cases h1; done) | skip
    rename_i hs
    have key0 : ∀ x, x ∈ four l c → key l x ≤ 1024 := fun x hx => by
      have hm := idx_mem (four_mem hx)
      have hk : cls (key l x) = (c : Int) := hm.2.2
      unfold cls at hk
      repeat' split at hk
      all_goals omega
    have tl : ∀ ps : List Int, (∀ x, x ∈ ps → key l x ≤ 1024) → tot l ps ≤ 1024 * (ps.length : Int) := by
      intro ps
      induction ps with
      | nil => intro _; simp [tot]
      | cons p r ih =>
        intro h
        have h2 := h p (by simp)
        have h3 := ih fun x hx => h x (by simp [hx])
        simp only [tot, List.length_cons]; omega
    have h2 := tl (four l c) key0
    have h3 : (four l c).length ≤ 4 := by unfold four; rw [List.length_take]; omega
    omega
theorem idx_sum (l : List Int) : ∀ k, k ≤ l.length → (∀ x, x ∈ l → 1 ≤ x) → (idx l 0 k).length + (idx l 1 k).length + (idx l 2 k).length + (idx l 3 k).length + (idx l 4 k).length = k ∧ 1025 * ((idx l 4 k).length : Int) ≤ suml (l.take k) := by
  intro k
  induction k with
  | zero => intro _ _; exact ⟨rfl, by simp [idx, suml]⟩
  | succ k ih =>
    intro hk hx
    obtain ⟨h1, h2⟩ := ih (by omega) hx
    have ht : suml (l.take (k + 1)) = suml (l.take k) + nth l k := by
      rw [List.take_add_one, nth_get (by omega), suml_append]; simp [suml]
    have hge := hx _ (List.mem_of_getElem? (nth_get (l := l) (k := k) (by omega)))
    have hc : cls (nth l k) = 0 ∨ cls (nth l k) = 1 ∨ cls (nth l k) = 2 ∨ cls (nth l k) = 3 ∨ (cls (nth l k) = 4 ∧ 1025 ≤ nth l k) := by
      unfold cls
      repeat' split
      all_goals omega
    rw [ht]
    unfold idx
    rcases hc with h | h | h | h | ⟨h, h5⟩ <;> rw [h] <;> simp <;> omega
theorem len_few {l : List Int} (hl : ∀ x, x ∈ l → 1 ≤ x ∧ x ≤ 4096) (h : (pickM l).length = 0) : (l.length : Int) ≤ 12 + suml l / 1025 := by
  obtain ⟨h1, h2⟩ := idx_sum l l.length (Nat.le_refl _) fun x hx => (hl x hx).1
  rw [List.take_length] at h2
  have f0 := few hl h (c := 0) (by omega)
  have f1 := few hl h (c := 1) (by omega)
  have f2 := few hl h (c := 2) (by omega)
  have f3 := few hl h (c := 3) (by omega)
  omega
theorem suml_pos {l : List Int} (hl : ∀ x, x ∈ l → 1 ≤ x) : 0 ≤ suml l := by
  induction l with
  | nil => exact Int.le_refl _
  | cons x l ih => have := hl x (by simp); have := ih fun y hy => hl y (by simp [hy]); simp only [suml]; omega
end Go.AM.T
/- Plain law: what is left where some places are taken out. -/
namespace Go.AM.T
def rest (L ps : List Int) : Nat → List Int
  | 0 => []
  | k + 1 => if (k : Int) ∈ ps then rest L ps k else rest L ps k ++ [nth L k]
theorem rest_low {L ps : List Int} : ∀ {k : Nat}, k ≤ L.length → (∀ p, p ∈ ps → (k : Int) ≤ p) → rest L ps k = L.take k := by
  intro k
  induction k with
  | zero => intro _ _; simp [rest]
  | succ k ih =>
    intro hk h
    rw [rest, if_neg (fun hm => by have := h _ hm; omega), ih (by omega) fun p hp => by have := h p hp; omega, List.take_add_one, nth_get (by omega)]
    rfl
theorem rest_erase {L r : List Int} {p : Nat} (hr : ∀ q, q ∈ r → (p : Int) < q) : ∀ (d : Nat), p + 1 + d ≤ L.length → rest L ((p : Int) :: r) (p + 1 + d) = (rest L r (p + 1 + d)).eraseIdx p ∧ p < (rest L r (p + 1 + d)).length := by
  intro d
  induction d with
  | zero =>
    intro h
    have e1 : rest L ((p : Int) :: r) (p + 1) = L.take p := by
      rw [rest, if_pos (by simp), rest_low (by omega)]
      intro q hq
      rcases List.mem_cons.1 hq with rfl | hq
      · exact Int.le_refl _
      · have := hr q hq; omega
    have e2 : rest L r (p + 1) = L.take (p + 1) := rest_low (by omega) fun q hq => by have := hr q hq; omega
    rw [Nat.add_zero, e1, e2]
    have hl : (L.take (p + 1)).length = p + 1 := by rw [List.length_take]; omega
    refine ⟨?_, by omega⟩
    rw [List.eraseIdx_eq_take_drop_succ, List.take_take, List.drop_eq_nil_of_le (by omega), List.append_nil]
    congr 1; omega
  | succ d ih =>
    intro h
    obtain ⟨h1, h2⟩ := ih (by omega)
    have ek : p + 1 + (d + 1) = (p + 1 + d) + 1 := by omega
    rw [ek, rest, rest]
    by_cases hm : ((p + 1 + d : Nat) : Int) ∈ r
    · rw [if_pos (List.mem_cons_of_mem _ hm), if_pos hm]
      exact ⟨h1, h2⟩
    · have hm2 : ((p + 1 + d : Nat) : Int) ∉ (p : Int) :: r := fun hx => by
        rcases List.mem_cons.1 hx with hx | hx
        · omega
        · exact hm hx
      rw [if_neg hm2, if_neg hm, h1, List.eraseIdx_append_of_lt_length h2]
      exact ⟨rfl, by rw [List.length_append]; omega⟩
theorem outS_rest {L : List Int} : ∀ {ps : List Int}, ps.Pairwise (· < ·) → (∀ p, p ∈ ps → 0 ≤ p ∧ p < L.length) → (outS L ps).1 = rest L ps L.length := by
  intro ps
  induction ps with
  | nil => intro _ _; rw [rest_low (Nat.le_refl _) (fun p h => by cases h), List.take_length]; rfl
  | cons p r ih =>
    intro h hm
    obtain ⟨h1, h2⟩ := List.pairwise_cons.1 h
    have hp := hm p (by simp)
    have e : (outS L (p :: r)).1 = (outS L r).1.eraseIdx p.toNat := rfl
    rw [e, ih h2 fun x hx => hm x (by simp [hx])]
    have hpn : ((p.toNat : Nat) : Int) = p := by omega
    have := (rest_erase (L := L) (r := r) (p := p.toNat) (fun q hq => by have := h1 q hq; omega) (L.length - p.toNat - 1) (by omega)).1
    rw [hpn, show p.toNat + 1 + (L.length - p.toNat - 1) = L.length by omega] at this
    exact this.symm
end Go.AM.T
/- The specification's Counts, Class, Sum, Same. -/
namespace Go.AM.T
open Go Go.AM
def cOk (l : List Int) : Bool := l.all fun x => decide (1 ≤ x) && decide (x ≤ 4096)
theorem cOk_mem {l : List Int} (h : cOk l = true) {x : Int} (hx : x ∈ l) : 1 ≤ x ∧ x ≤ 4096 := by
  have := List.all_eq_true.1 h x hx
  simpa using this
theorem counts_loop {k : List KI} {Q : AExit → Fr → AHeap → Prop} {H : AHeap} {l : List Int} {m : Int} (hl : l.length ≤ 1125899906842624) : ∀ (d i : Nat) (T : Fr), i + d = l.length → gN T 0 = lstE 1 encI l → gN T 1 = iv m → gN T 5 = iv i →
    (∀ T', gN T' 4 = .bool false → cOk (l.drop i) = false → GoW tbl Q k .ret T' H) → (∀ T', gN T' 0 = lstE 1 encI l → gN T' 1 = iv m → cOk (l.drop i) = true → GoW tbl Q k (.exit 0) T' H) → GoS tbl (.code (.loop kc_ref33_Counts_l0) :: k) .normal T H Q := by
  intro d
  induction d with
  | zero =>
    intro i T hi t0 t1 t5 h1 h2
    refine GoS.loopD (a' := c_ref33_Counts_l0) rfl (GoW.sound ?_)
    simp (disch := (first | omega | (unfold InR; omega))) only [c_ref33_Counts_l0, go_sem, ↓reduceIte, Nat.reduceEqDiff, t0, t1, t5, dT, dF, Bool.false_eq_true]
    refine h2 _ ?_ ?_ (by rw [List.drop_eq_nil_of_le (by omega)]; rfl)
    all_goals simp only [go_sem, ↓reduceIte, Nat.reduceEqDiff, t0, t1]
  | succ d ih =>
    intro i T hi t0 t1 t5 h1 h2
    refine GoS.loopD (a' := c_ref33_Counts_l0) rfl (GoW.sound ?_)
    have hd := drop_nth (l := l) (k := i) (by omega)
    have hc : cOk (l.drop i) = ((decide (1 ≤ nth l i) && decide (nth l i ≤ 4096)) && cOk (l.drop (i + 1))) := by rw [hd]; rfl
    have d0 : decide ((i : Int) < (l.length : Int)) = true := dT (by omega)
    by_cases a1 : nth l i < 1
    · have d1 := dT a1
      simp (disch := (first | omega | (unfold InR; omega))) only [c_ref33_Counts_l0, go_sem, ↓reduceIte, Nat.reduceEqDiff, t0, t1, t5, d0, d1, Bool.false_eq_true, reduceCtorEq]
      refine h1 _ (by simp only [go_sem, ↓reduceIte, Nat.reduceEqDiff]) ?_
      rw [hc, dF (by omega : ¬ 1 ≤ nth l i)]; rfl
    · have d1 := dF a1
      by_cases a2 : 4096 < nth l i
      · have d2 := dT a2
        simp (disch := (first | omega | (unfold InR; omega))) only [c_ref33_Counts_l0, go_sem, ↓reduceIte, Nat.reduceEqDiff, t0, t1, t5, d0, d1, d2, Bool.false_eq_true, reduceCtorEq]
        refine h1 _ (by simp only [go_sem, ↓reduceIte, Nat.reduceEqDiff]) ?_
        rw [hc, dF (by omega : ¬ nth l i ≤ 4096), Bool.and_false]; rfl
      · have d2 := dF a2
        have hc' : cOk (l.drop i) = cOk (l.drop (i + 1)) := by rw [hc, dT (by omega : 1 ≤ nth l i), dT (by omega : nth l i ≤ 4096)]; rfl
        simp (disch := (first | omega | (unfold InR; omega))) only [c_ref33_Counts_l0, go_sem, ↓reduceIte, Nat.reduceEqDiff, t0, t1, t5, d0, d1, d2, Bool.false_eq_true, reduceCtorEq]
        refine ih (i + 1) _ (by omega) ?_ ?_ ?_ (fun T' g1 g2 => h1 T' g1 (hc'.trans g2)) fun T' g0 g1 g2 => h2 T' g0 g1 (hc'.trans g2)
        all_goals simp only [go_sem, ↓reduceIte, Nat.reduceEqDiff, t0, t1, Int.natCast_add, Int.natCast_one]
theorem counts_does {l : List Int} {m : Int} (hl : l.length ≤ 1125899906842624) {H : AHeap} {R : AV → AHeap → Prop} (h : R (.bool (cOk l && decide ((l.length : Int) ≤ m))) H) : CallV tbl f_ref33_Counts [lstE 1 encI l, iv m] H R := by
  refine T.callW rfl ?_
  simp only [c_ref33_Counts, a6, go_sem, ↓reduceIte, Nat.reduceEqDiff]
  refine counts_loop (m := m) hl l.length 0 _ (by omega) ?_ ?_ ?_ (fun T' h1 h2 => ?_) fun T' h0 h1 h2 => ?_
  · simp only [go_sem, ↓reduceIte, Nat.reduceEqDiff]
  · simp only [go_sem, ↓reduceIte, Nat.reduceEqDiff]
  · simp only [go_sem, ↓reduceIte, Nat.reduceEqDiff]; rfl
  · rw [List.drop_zero] at h2
    simp only [go_sem, h1]
    exact .same (by rw [h2] at h; exact h)
  · rw [List.drop_zero] at h2
    simp only [go_sem, ↓reduceIte, Nat.reduceEqDiff, h0, h1]
    exact .same (by rw [h2, Bool.true_and] at h; exact h)

theorem class_step {n : Int} {H : AHeap} (c m : Int) (hc : 0 ≤ c ∧ c ≤ 4) (hm : 16 ≤ m ∧ m ≤ 4096) {c2 m2 : Int} (ec : c2 = c + 1) (em : m2 = 4 * m) {k : List KI} {Q : AExit → Fr → AHeap → Prop} {T : Fr} (t0 : gN T 0 = iv n) (t3 : gN T 3 = iv c) (t4 : gN T 4 = iv m)
    (h1 : n ≤ m → ∀ T', gN T' 3 = iv c → GoW tbl Q k (.exit 0) T' H) (h2 : m < n → ∀ T', gN T' 0 = iv n → gN T' 3 = iv c2 → gN T' 4 = iv m2 → GoS tbl (.code (.loop kc_ref33_Class_l0) :: k) .normal T' H Q) :
    GoS tbl (.code (.loop kc_ref33_Class_l0) :: k) .normal T H Q := by
  refine GoS.loopD (a' := c_ref33_Class_l0) rfl (GoW.sound ?_)
  by_cases a : m < n
  · have d := dT a
    simp (disch := (first | omega | (unfold InR; omega))) only [c_ref33_Class_l0, go_sem, ↓reduceIte, Nat.reduceEqDiff, t0, t3, t4, d, Bool.false_eq_true, reduceCtorEq]
    refine h2 a _ ?_ ?_ ?_
    all_goals simp only [go_sem, ↓reduceIte, Nat.reduceEqDiff, t0, ec, em]
  · have d := dF a
    simp (disch := (first | omega | (unfold InR; omega))) only [c_ref33_Class_l0, go_sem, ↓reduceIte, Nat.reduceEqDiff, t0, t3, t4, d, Bool.false_eq_true, reduceCtorEq]
    refine h1 (by omega) _ ?_
    simp only [go_sem, ↓reduceIte, Nat.reduceEqDiff, t3]
theorem rclass_does {n : Int} (hn : n ≤ 4096) {H : AHeap} {R : AV → AHeap → Prop} (hr : R (iv (cls n)) H) : CallV tbl f_ref33_Class [iv n] H R := by
  refine T.callW rfl ?_
  simp only [c_ref33_Class, a9, go_sem, ↓reduceIte, Nat.reduceEqDiff]
  refine class_step (n := n) 0 16 (by omega) (by omega) (c2 := 1) (m2 := 64) rfl rfl ?_ ?_ ?_ (fun h T' g => ?_) fun h1 T1 a1 b1 c1 => class_step (n := n) 1 64 (by omega) (by omega) (c2 := 2) (m2 := 256) rfl rfl a1 b1 c1 (fun h T' g => ?_) fun h2 T2 a2 b2 c2 => class_step (n := n) 2 256 (by omega) (by omega) (c2 := 3) (m2 := 1024) rfl rfl a2 b2 c2 (fun h T' g => ?_)
    fun h3 T3 a3 b3 c3 => class_step (n := n) 3 1024 (by omega) (by omega) (c2 := 4) (m2 := 4096) rfl rfl a3 b3 c3 (fun h T' g => ?_) fun h4 T4 a4 b4 c4 => class_step (n := n) 4 4096 (by omega) (by omega) (c2 := 5) (m2 := 16384) rfl rfl a4 b4 c4 (fun h T' g => ?_) fun h5 => by omega
  · simp only [go_sem, ↓reduceIte, Nat.reduceEqDiff]
  · simp only [go_sem, ↓reduceIte, Nat.reduceEqDiff]
  · simp only [go_sem, ↓reduceIte, Nat.reduceEqDiff]
  · rw [cls_is (c := 0) (by omega)] at hr
    simp only [go_sem, ↓reduceIte, Nat.reduceEqDiff, g]
    exact .same hr
  · rw [cls_is (c := 1) (by omega)] at hr
    simp only [go_sem, ↓reduceIte, Nat.reduceEqDiff, g]
    exact .same hr
  · rw [cls_is (c := 2) (by omega)] at hr
    simp only [go_sem, ↓reduceIte, Nat.reduceEqDiff, g]
    exact .same hr
  · rw [cls_is (c := 3) (by omega)] at hr
    simp only [go_sem, ↓reduceIte, Nat.reduceEqDiff, g]
    exact .same hr
  · rw [cls_is (c := 4) (by omega)] at hr
    simp only [go_sem, ↓reduceIte, Nat.reduceEqDiff, g]
    exact .same hr

theorem same_loop {k : List KI} {Q : AExit → Fr → AHeap → Prop} {H : AHeap} {l m : List Int} (hl : l.length ≤ 1000000) (hlm : l.length = m.length) : ∀ (d i : Nat) (T : Fr), i + d = l.length → gN T 0 = lstE 1 encI l → gN T 1 = lstE 1 encI m → gN T 5 = iv i →
    (∀ T', gN T' 4 = .bool false → l.drop i ≠ m.drop i → GoW tbl Q k .ret T' H) → (∀ T', l.drop i = m.drop i → GoW tbl Q k (.exit 0) T' H) → GoS tbl (.code (.loop kc_ref33_Same_l0) :: k) .normal T H Q := by
  intro d
  induction d with
  | zero =>
    intro i T hi t0 t1 t5 h1 h2
    refine GoS.loopD (a' := c_ref33_Same_l0) rfl (GoW.sound ?_)
    simp (disch := (first | omega | (unfold InR; omega))) only [c_ref33_Same_l0, go_sem, ↓reduceIte, Nat.reduceEqDiff, t0, t1, t5, dT, dF, Bool.false_eq_true]
    exact h2 _ (by rw [List.drop_eq_nil_of_le (by omega), List.drop_eq_nil_of_le (by omega)])
  | succ d ih =>
    intro i T hi t0 t1 t5 h1 h2
    refine GoS.loopD (a' := c_ref33_Same_l0) rfl (GoW.sound ?_)
    have hd := drop_nth (l := l) (k := i) (by omega)
    have he := drop_nth (l := m) (k := i) (by omega)
    by_cases a : nth l i = nth m i
    · simp (disch := (first | omega | (unfold InR; omega))) only [c_ref33_Same_l0, go_sem, ↓reduceIte, Nat.reduceEqDiff, t0, t1, t5, a, ne_eq, not_true_eq_false, true_and, dT, dF, Bool.false_eq_true]
      have hc : (l.drop i = m.drop i) = (l.drop (i + 1) = m.drop (i + 1)) := by rw [hd, he, a]; simp
      refine ih (i + 1) _ (by omega) ?_ ?_ ?_ (fun T' g1 g2 => h1 T' g1 (by rw [ne_eq, hc]; exact g2)) fun T' g => h2 T' (by rw [hc]; exact g)
      all_goals simp only [go_sem, ↓reduceIte, Nat.reduceEqDiff, t0, t1, Int.natCast_add, Int.natCast_one]
    · simp (disch := (first | omega | (unfold InR; omega))) only [c_ref33_Same_l0, go_sem, ↓reduceIte, Nat.reduceEqDiff, t0, t1, t5, a, ne_eq, not_false_eq_true, true_and, dT, dF, Bool.false_eq_true]
      exact h1 _ (by simp only [go_sem, ↓reduceIte, Nat.reduceEqDiff]) (by rw [hd, he]; simp [a])
theorem same_does {l m : List Int} (hl : l.length ≤ 1000000) (hm : m.length ≤ 1000000) {H : AHeap} {R : AV → AHeap → Prop} (h : R (.bool (decide (l = m))) H) : CallV tbl f_ref33_Same [lstE 1 encI l, lstE 1 encI m] H R := by
  refine T.callW rfl ?_
  by_cases a : l.length = m.length
  · simp (disch := (first | omega | (unfold InR; omega))) only [c_ref33_Same, a12, go_sem, ↓reduceIte, Nat.reduceEqDiff, a, ne_eq, not_true_eq_false, dF, Bool.false_eq_true]
    refine same_loop hl a l.length 0 _ (by omega) ?_ ?_ ?_ (fun T' g1 g2 => ?_) fun T' g => ?_
    · simp only [go_sem, ↓reduceIte, Nat.reduceEqDiff]
    · simp only [go_sem, ↓reduceIte, Nat.reduceEqDiff]
    · simp only [go_sem, ↓reduceIte, Nat.reduceEqDiff]; rfl
    · simp only [go_sem, g1]
      exact .same (by rw [dF (by simpa using g2)] at h; exact h)
    · simp only [go_sem, ↓reduceIte, Nat.reduceEqDiff]
      exact .same (by rw [dT (by simpa using g)] at h; exact h)
  · simp (disch := (first | omega | (unfold InR; omega))) only [c_ref33_Same, a12, go_sem, ↓reduceIte, Nat.reduceEqDiff, ne_eq, dT, dF, Bool.false_eq_true]
    exact .same (by rw [dF (fun e => a (by rw [e]))] at h; exact h)
end Go.AM.T
/- The specification's Sum. -/
namespace Go.AM.T
open Go Go.AM
theorem rsum_loop {counts F : List Int} (hc : ∀ x, x ∈ counts → 0 ≤ x ∧ x ≤ 4096) (hF : F.length ≤ 1000) (hm : ∀ x, x ∈ F → 0 ≤ x ∧ x < counts.length) {k : List KI} {Q : AExit → Fr → AHeap → Prop} {H : AHeap} : ∀ (d i : Nat) (a : Int) (T : Fr), i + d = F.length →
    gN T 0 = lstE 1 encI counts → gN T 1 = lstE 1 encI F → gN T 5 = iv a → gN T 6 = iv i → 0 ≤ a → a ≤ 4096 * (i : Int) →
    (∀ T', gN T' 5 = iv (a + tot counts (F.drop i)) → GoW tbl Q k (.exit 0) T' H) → GoS tbl (.code (.loop kc_ref33_Sum_l0) :: k) .normal T H Q := by
  intro d
  induction d with
  | zero =>
    intro i a T hi t0 t1 t5 t6 b0 b1 h
    refine GoS.loopD (a' := c_ref33_Sum_l0) rfl (GoW.sound ?_)
    simp (disch := omega) only [c_ref33_Sum_l0, go_sem, ↓reduceIte, Nat.reduceEqDiff, Nat.reduceAdd, t1, t6, dF, Bool.false_eq_true]
    refine h _ ?_
    rw [List.drop_eq_nil_of_le (by omega)]
    simp only [go_sem, ↓reduceIte, Nat.reduceEqDiff, t5, tot, Int.add_zero]
  | succ d ih =>
    intro i a T hi t0 t1 t5 t6 b0 b1 h
    have hr := hm _ (List.mem_of_getElem? (nth_get (l := F) (k := i) (by omega)))
    have hk := hc _ (List.mem_of_getElem? (nth_get (l := counts) (k := (nth F i).toNat) (by omega)))
    have hd := drop_nth (l := F) (k := i) (by omega)
    have d0 : decide ((i : Int) < (F.length : Int)) = true := dT (by omega)
    refine GoS.loopD (a' := c_ref33_Sum_l0) rfl (GoW.sound ?_)
    simp (disch := (first | omega | (unfold InR; omega))) only [c_ref33_Sum_l0, go_sem, ↓reduceIte, Nat.reduceEqDiff, Nat.reduceAdd, t0, t1, t5, t6, d0]
    refine ih (i + 1) (a + nth counts (nth F i).toNat) _ (by omega) ?_ ?_ ?_ ?_ (by omega) (by omega) fun T' g => h T' ?_
    · simp only [go_sem, ↓reduceIte, Nat.reduceEqDiff, t0]
    · simp only [go_sem, ↓reduceIte, Nat.reduceEqDiff, t1]
    · simp only [go_sem, ↓reduceIte, Nat.reduceEqDiff]
    · simp only [go_sem, ↓reduceIte, Nat.reduceEqDiff, Int.natCast_add, Int.natCast_one]
    · rw [g, hd]
      simp only [tot, key]
      congr 1; omega
theorem rsum_does {counts F : List Int} (hc : ∀ x, x ∈ counts → 0 ≤ x ∧ x ≤ 4096) (hF : F.length ≤ 1000) (hm : ∀ x, x ∈ F → 0 ≤ x ∧ x < counts.length) {H : AHeap} {R : AV → AHeap → Prop} (h : R (iv (tot counts F)) H) : CallV tbl f_ref33_Sum [lstE 1 encI counts, lstE 1 encI F] H R := by
  refine T.callW rfl ?_
  simp only [c_ref33_Sum, a15, go_sem, ↓reduceIte, Nat.reduceEqDiff]
  refine rsum_loop hc hF hm F.length 0 0 _ (by omega) ?_ ?_ ?_ ?_ (by omega) (by omega) (fun T' g => ?_)
  · simp only [go_sem, ↓reduceIte, Nat.reduceEqDiff]
  · simp only [go_sem, ↓reduceIte, Nat.reduceEqDiff]
  · simp only [go_sem, ↓reduceIte, Nat.reduceEqDiff]
  · simp only [go_sem, ↓reduceIte, Nat.reduceEqDiff]; rfl
  · rw [List.drop_zero, Int.zero_add] at g
    simp only [go_sem, ↓reduceIte, Nat.reduceEqDiff, g]
    exact .same h
end Go.AM.T
/- The specification's least. -/
namespace Go.AM.T
open Go Go.AM
theorem rclass_callF {n : Int} (h : n ≤ 4096) {H : AHeap} : CallF tbl f_ref33_Class [iv n] H fun r H2 => r = iv (cls n) ∧ H2 = H :=
  CallF.view (P0 := fun r _ => r = iv (cls n)) (P1 := fun r => r = iv (cls n)) (Frzs.pure rfl) (rclass_does h rfl) fun r H' e => ⟨by rw [e]; rfl, e⟩
/-- an own list, or nil -/
def Own (H : AHeap) (v : AV) (l : List Int) : Prop := (v = .nilsl ∧ l = []) ∨ ∃ j, j < H.nx ∧ Spr H v j l
theorem Own.frz {H : AHeap} {v : AV} {l : List Int} (h : Own H v l) : Frz 0 H v (lstE 1 encI l) := by
  rcases h with ⟨rfl, rfl⟩ | ⟨j, _, h⟩
  · exact .nilsl 1
  · exact spr_frz h (Nat.zero_le _)
theorem has_callF {H : AHeap} {v : AV} {l : List Int} {n : Int} (h : Own H v l) (hl : l.length ≤ 1000000) : CallF tbl f_ref33_has [v, iv n] H fun r H2 => r = .bool (decide (n ∈ l)) ∧ H2 = H :=
  CallF.view (P0 := fun r _ => r = .bool (decide (n ∈ l))) (P1 := fun r => r = .bool (decide (n ∈ l))) (.cons _ _ _ _ h.frz (.cons _ _ _ _ (.pure _ rfl) .nil)) (has_does hl rfl) fun r H' e => ⟨by rw [e]; rfl, e⟩
theorem bst_lo (counts : List Int) (c : Nat) (out : List Int) (k : Nat) : -1 ≤ bst counts c out k ∧ bst counts c out k < k := by
  rcases bst_ok counts c out k with h | h
  · omega
  · have := idx_mem h.1; omega
theorem least_loop1 {counts out : List Int} {c : Nat} (hl : counts.length ≤ 1000) (hx : ∀ x, x ∈ counts → 1 ≤ x ∧ x ≤ 4096) (ho : out.length ≤ 1000) {v : AV} {H : AHeap} (hv : Own H v out) {k : List KI} {Q : AExit → Fr → AHeap → Prop} : ∀ (d i : Nat) (T : Fr), i + d = counts.length →
    gN T 0 = lstE 1 encI counts → gN T 1 = iv c → gN T 5 = v → gN T 6 = iv (bst counts c out i) → gN T 7 = iv i →
    (∀ T', gN T' 0 = lstE 1 encI counts → gN T' 1 = iv c → gN T' 5 = v → gN T' 6 = iv (bst counts c out counts.length) → GoW tbl Q k (.exit 2) T' H) → GoS tbl (.code (.loop kc_ref33_least_l1) :: k) .normal T H Q := by
  intro d
  induction d with
  | zero =>
    intro i T hi t0 t1 t5 t6 t7 h
    have hii : counts.length = i := by omega
    have d0 : decide ((i : Int) < (counts.length : Int)) = false := dF (by omega)
    refine GoS.loopD (a' := c_ref33_least_l1) rfl (GoW.sound ?_)
    simp (disch := omega) only [c_ref33_least_l1, go_sem, ↓reduceIte, Nat.reduceEqDiff, Nat.reduceAdd, t0, t7, d0, Bool.false_eq_true]
    refine h _ ?_ ?_ ?_ ?_
    all_goals simp only [go_sem, ↓reduceIte, Nat.reduceEqDiff, t0, t1, t5, t6]
    rw [hii]
  | succ d ih =>
    intro i T hi t0 t1 t5 t6 t7 h
    have hk := hx _ (List.mem_of_getElem? (nth_get (l := counts) (k := i) (by omega)))
    have d0 : decide ((i : Int) < (counts.length : Int)) = true := dT (by omega)
    have hb := bst_lo counts c out i
    have tail : ∀ T' : Fr, gN T' 0 = lstE 1 encI counts → gN T' 1 = iv c → gN T' 5 = v → gN T' 6 = iv (bst counts c out (i + 1)) → gN T' 7 = iv ((i + 1 : Nat) : Int) → GoS tbl (.code (.loop kc_ref33_least_l1) :: k) .normal T' H Q :=
      fun T' a b c d e => ih (i + 1) T' (by omega) a b c d e h
    refine GoS.loopD (a' := c_ref33_least_l1) rfl (GoW.sound ?_)
    simp (disch := (first | omega | (unfold InR; omega))) only [c_ref33_least_l1, go_sem, ↓reduceIte, Nat.reduceEqDiff, Nat.reduceAdd, t0, t1, t5, t6, t7, d0, true_and]
    refine GoS.callF ?_
    simp only [go_sem, ↓reduceIte, Nat.reduceEqDiff, evs]
    refine (rclass_callF (by omega)).mono ?_
    rintro r H' ⟨rfl, rfl⟩
    refine GoW.sound ?_
    by_cases hc : cls (nth counts i) = c
    · have d1 : decide (cls (nth counts i) = (c : Int)) = true := dT hc
      simp (disch := (first | omega | (unfold InR; omega))) only [go_sem, ↓reduceIte, Nat.reduceEqDiff, Nat.reduceAdd, t0, t1, t5, t6, t7, d1, true_and]
      refine GoS.callF ?_
      simp only [go_sem, ↓reduceIte, Nat.reduceEqDiff, evs]
      refine (has_callF hv (by omega)).mono ?_
      rintro r H' ⟨rfl, rfl⟩
      refine GoW.sound ?_
      by_cases hm : (i : Int) ∈ out
      · have d2 : decide ((i : Int) ∈ out) = true := dT hm
        have hbs : bst counts c out (i + 1) = bst counts c out i := by rw [bst, if_neg]; exact fun h => h.2.1 hm
        simp (disch := (first | omega | (unfold InR; omega))) only [go_sem, ↓reduceIte, Nat.reduceEqDiff, Nat.reduceAdd, t0, t1, t5, t6, t7, d2, Bool.not_true, Bool.false_eq_true, reduceCtorEq, true_and]
        refine tail _ ?_ ?_ ?_ ?_ ?_
        all_goals simp only [go_sem, ↓reduceIte, Nat.reduceEqDiff, t0, t1, t5, t6, hbs, Int.natCast_add, Int.natCast_one]
      · have d2 : decide ((i : Int) ∈ out) = false := dF hm
        by_cases hneg : bst counts c out i < 0
        · have d3 : decide (bst counts c out i < 0) = true := dT hneg
          have hbs : bst counts c out (i + 1) = i := by rw [bst, if_pos]; exact ⟨hc, hm, .inl hneg⟩
          simp (disch := (first | omega | (unfold InR; omega))) only [go_sem, ↓reduceIte, Nat.reduceEqDiff, Nat.reduceAdd, t0, t1, t5, t6, t7, d2, d3, Bool.not_false, Bool.false_eq_true, reduceCtorEq, true_and]
          refine tail _ ?_ ?_ ?_ ?_ ?_
          all_goals simp only [go_sem, ↓reduceIte, Nat.reduceEqDiff, t0, t1, t5, t6, hbs, Int.natCast_add, Int.natCast_one]
        · have d3 : decide (bst counts c out i < 0) = false := dF hneg
          by_cases hlt : nth counts i < nth counts (bst counts c out i).toNat
          · have d4 : decide (nth counts i < nth counts (bst counts c out i).toNat) = true := dT hlt
            have hbs : bst counts c out (i + 1) = i := by rw [bst, if_pos]; exact ⟨hc, hm, .inr hlt⟩
            simp (disch := (first | omega | (unfold InR; omega))) only [go_sem, ↓reduceIte, Nat.reduceEqDiff, Nat.reduceAdd, t0, t1, t5, t6, t7, d2, d3, d4, Bool.not_false, Bool.false_eq_true, reduceCtorEq, true_and]
            refine tail _ ?_ ?_ ?_ ?_ ?_
            all_goals simp only [go_sem, ↓reduceIte, Nat.reduceEqDiff, t0, t1, t5, t6, hbs, Int.natCast_add, Int.natCast_one]
          · have d4 : decide (nth counts i < nth counts (bst counts c out i).toNat) = false := dF hlt
            have hbs : bst counts c out (i + 1) = bst counts c out i := by
              rw [bst, if_neg]; rintro ⟨_, _, h | h⟩
              · exact hneg h
              · exact hlt h
            simp (disch := (first | omega | (unfold InR; omega))) only [go_sem, ↓reduceIte, Nat.reduceEqDiff, Nat.reduceAdd, t0, t1, t5, t6, t7, d2, d3, d4, Bool.not_false, Bool.false_eq_true, reduceCtorEq, true_and]
            refine tail _ ?_ ?_ ?_ ?_ ?_
            all_goals simp only [go_sem, ↓reduceIte, Nat.reduceEqDiff, t0, t1, t5, t6, hbs, Int.natCast_add, Int.natCast_one]
    · have d1 : decide (cls (nth counts i) = (c : Int)) = false := dF hc
      have hbs : bst counts c out (i + 1) = bst counts c out i := by rw [bst, if_neg]; exact fun h => hc h.1
      simp (disch := (first | omega | (unfold InR; omega))) only [go_sem, ↓reduceIte, Nat.reduceEqDiff, Nat.reduceAdd, t0, t1, t5, t6, t7, d1, Bool.false_eq_true, reduceCtorEq, true_and]
      refine tail _ ?_ ?_ ?_ ?_ ?_
      all_goals simp only [go_sem, ↓reduceIte, Nat.reduceEqDiff, t0, t1, t5, t6, hbs, Int.natCast_add, Int.natCast_one]
end Go.AM.T
/- The specification's least, whole. -/
namespace Go.AM.T
open Go Go.AM
theorem own_of_gro {N : Nat} {H : AHeap} {v : AV} {l : List Int} (h : Gro 1 encI N H v l) : Own H v l := by
  rcases h with ⟨rfl, rfl⟩ | ⟨j, ex, h1, h2, rfl, h3⟩
  · exact .inl ⟨rfl, rfl⟩
  · exact .inr ⟨j, h2, [], ex, by simp, by rw [List.append_nil]; exact h3, rfl⟩
theorem least_loop0 {H0 : AHeap} {counts : List Int} {c : Nat} (hl : counts.length ≤ 1000) (hx : ∀ x, x ∈ counts → 1 ≤ x ∧ x ≤ 4096) {k : List KI} {Q : AExit → Fr → AHeap → Prop}
    (h1 : (srt counts c).length < 4 → ∀ T' H', (∀ i, i < H0.nx → H'.get i = H0.get i) → gN T' 4 = .nilsl → GoW tbl Q k .ret T' H')
    (h2 : 4 ≤ (srt counts c).length → ∀ T' H' v', H0.nx ≤ H'.nx → (∀ i, i < H0.nx → H'.get i = H0.get i) → Gro 1 encI H0.nx H' v' ((srt counts c).take 4) → gN T' 0 = lstE 1 encI counts → gN T' 5 = v' → GoW tbl Q k (.exit 0) T' H') :
    ∀ (m j : Nat) (v : AV) (T : Fr) (H : AHeap), j + m = 4 → j ≤ (srt counts c).length → H0.nx ≤ H.nx → (∀ i, i < H0.nx → H.get i = H0.get i) → Gro 1 encI H0.nx H v ((srt counts c).take j) → gN T 0 = lstE 1 encI counts → gN T 1 = iv c → gN T 5 = v →
    GoS tbl (.code (.loop kc_ref33_least_l0) :: k) .normal T H Q := by
  have hsl : (srt counts c).length ≤ 1000 := by have := idx_len counts c counts.length; rw [srt_len]; omega
  intro m
  induction m with
  | zero =>
    intro j v T H hj hjl nx keep hg t0 t1 t5
    obtain rfl : j = 4 := by omega
    have e1 := hg.len
    have hlen : ((srt counts c).take 4).length = 4 := by rw [List.length_take]; omega
    rw [hlen] at e1
    refine GoS.loopD (a' := c_ref33_least_l0) rfl (GoW.sound ?_)
    have d0 : decide (((4 : Nat) : Int) < 4) = false := rfl
    simp (disch := omega) only [c_ref33_least_l0, go_sem, ↓reduceIte, Nat.reduceEqDiff, Nat.reduceAdd, t5, e1, d0, Bool.false_eq_true]
    refine h2 hjl _ _ v nx keep hg ?_ ?_
    all_goals simp only [go_sem, ↓reduceIte, Nat.reduceEqDiff, t0, t5]
  | succ m ih =>
    intro j v T H hj hjl nx keep hg t0 t1 t5
    have e1 := hg.len
    have hlen : ((srt counts c).take j).length = j := by rw [List.length_take]; omega
    rw [hlen] at e1
    have d0 : decide ((j : Int) < 4) = true := dT (by omega)
    refine GoS.loopD (a' := c_ref33_least_l0) rfl (GoW.sound ?_)
    simp (disch := omega) only [c_ref33_least_l0, go_sem, ↓reduceIte, Nat.reduceEqDiff, Nat.reduceAdd, t5, e1, d0]
    refine least_loop1 (out := (srt counts c).take j) (c := c) hl hx (by omega) (own_of_gro hg) counts.length 0 _ (by omega) ?_ ?_ ?_ ?_ ?_ fun T1 u0 u1 u5 u6 => ?_
    · simp only [go_sem, ↓reduceIte, Nat.reduceEqDiff, t0]
    · simp only [go_sem, ↓reduceIte, Nat.reduceEqDiff, t1]
    · simp only [go_sem, ↓reduceIte, Nat.reduceEqDiff, t5]
    · simp only [go_sem, ↓reduceIte, Nat.reduceEqDiff]; rfl
    · simp only [go_sem, ↓reduceIte]; rfl
    by_cases hjs : j < (srt counts c).length
    · rw [bst_next hjs] at u6
      have hm := idx_mem (srt_mem.1 (List.mem_of_getElem? (nth_get hjs)))
      have d1 : decide (nth (srt counts c) j < 0) = false := dF (by omega)
      have e2 : opBslice 1 1 [iv 0] [(0, 1, iv (nth (srt counts c) j))] H = some (.sl H.nx 0 1 1 1 true, lay [iv (nth (srt counts c) j)] H) := rfl
      have hg2 : Gro 1 encI H0.nx (lay [iv (nth (srt counts c) j)] H) v ((srt counts c).take j) := hg.keep (by simp [lay]) fun q hq => get_push_ne _ _ _ (by have := (hg.vid hq).2; omega)
      obtain ⟨o1, o2⟩ := one_cells (es := 1) (enc := encI) (H := lay [iv (nth (srt counts c) j)] H) (x := nth (srt counts c) j) (i := H.nx) (get_push_same ..) rfl
      obtain ⟨ex, H2, a1, a2, a3, a4⟩ := gro_append (es := 1) (enc := encI) (by_ := 8) (N := H0.nx) (m := [nth (srt counts c) j]) lenI (fun _ => rfl) (by omega) (by omega) (by omega) hg2 (by simp [lay]; omega) o1 o2 (by simp) (by rw [hlen, List.length_singleton]; omega)
      have tk : (srt counts c).take j ++ [nth (srt counts c) j] = (srt counts c).take (j + 1) := by rw [List.take_add_one, nth_get hjs]; rfl
      rw [tk] at a1 a3
      simp (disch := omega) only [go_sem, ↓reduceIte, Nat.reduceEqDiff, Nat.reduceAdd, u5, u6, d1, e2, a1, Bool.false_eq_true]
      have nxl : (lay [iv (nth (srt counts c) j)] H).nx = H.nx + 1 := rfl
      refine ih (j + 1) _ _ H2 (by omega) (by omega) (by omega) (fun i hi => ?_) (.inr ⟨_, ex, by omega, by omega, rfl, a3⟩) ?_ ?_ ?_
      · rw [a4 i (by omega) (fun e => by have := (hg.vid e).1; omega)]
        exact (get_push_ne _ _ _ (by omega)).trans (keep i hi)
      · simp only [go_sem, ↓reduceIte, Nat.reduceEqDiff, u0]
      · simp only [go_sem, ↓reduceIte, Nat.reduceEqDiff, u1]
      · simp only [go_sem, ↓reduceIte]
    · rw [bst_none (by omega)] at u6
      have d1 : decide ((-1 : Int) < 0) = true := rfl
      simp (disch := omega) only [go_sem, ↓reduceIte, Nat.reduceEqDiff, Nat.reduceAdd, u6, d1]
      refine h1 (by omega) _ _ keep ?_
      simp only [go_sem, ↓reduceIte, Nat.reduceEqDiff]
theorem least_loop2 {H0 : AHeap} {out : List Int} {n : Nat} (hn : n ≤ 1000) (ho : out.length ≤ 1000) {l : List Int} (hl : l.length = n) {k : List KI} {Q : AExit → Fr → AHeap → Prop}
    (h : ∀ T' H' u, H0.nx ≤ H'.nx → (∀ i, i < H0.nx → H'.get i = H0.get i) → Gro 1 encI H0.nx H' u (upto out n) → gN T' 8 = u → GoW tbl Q k (.exit 4) T' H') :
    ∀ (d i : Nat) (v u : AV) (T : Fr) (H : AHeap), i + d = n → H0.nx ≤ H.nx → (∀ i, i < H0.nx → H.get i = H0.get i) → Gro 1 encI H0.nx H v out → Gro 1 encI H0.nx H u (upto out i) → (∀ j, vid v = some j → vid u ≠ some j) → gN T 0 = lstE 1 encI l → gN T 5 = v → gN T 8 = u → gN T 9 = iv i →
    GoS tbl (.code (.loop kc_ref33_least_l2) :: k) .normal T H Q := by
  have ul : ∀ i, (upto out i).length ≤ i := fun i => by
    induction i with
    | zero => exact Nat.le_refl 0
    | succ i ih =>
      unfold upto
      split
      · rw [List.length_append, List.length_singleton]; omega
      · omega
  intro d
  induction d with
  | zero =>
    intro i v u T H hi nx keep hg hu hd t0 t5 t8 t9
    obtain rfl : i = n := by omega
    have d0 : decide ((i : Int) < (l.length : Int)) = false := dF (by omega)
    refine GoS.loopD (a' := c_ref33_least_l2) rfl (GoW.sound ?_)
    simp (disch := omega) only [c_ref33_least_l2, go_sem, ↓reduceIte, Nat.reduceEqDiff, Nat.reduceAdd, t0, t9, d0, Bool.false_eq_true]
    refine h _ _ u nx keep hu ?_
    simp only [go_sem, ↓reduceIte, Nat.reduceEqDiff, t8]
  | succ d ih =>
    intro i v u T H hi nx keep hg hu hd t0 t5 t8 t9
    have d0 : decide ((i : Int) < (l.length : Int)) = true := dT (by omega)
    have hul := ul i
    refine GoS.loopD (a' := c_ref33_least_l2) rfl (GoW.sound ?_)
    simp (disch := omega) only [c_ref33_least_l2, go_sem, ↓reduceIte, Nat.reduceEqDiff, Nat.reduceAdd, t0, t5, t9, d0]
    refine GoS.callF ?_
    simp only [go_sem, ↓reduceIte, Nat.reduceEqDiff, evs]
    refine (has_callF (own_of_gro hg) (by omega)).mono ?_
    rintro r H' ⟨rfl, rfl⟩
    refine GoW.sound ?_
    by_cases hm : (i : Int) ∈ out
    · have d2 : decide ((i : Int) ∈ out) = true := dT hm
      have hup : upto out (i + 1) = upto out i ++ [(i : Int)] := by rw [upto, if_pos hm]
      have e2 : opBslice 1 1 [iv 0] [(0, 1, iv i)] H' = some (.sl H'.nx 0 1 1 1 true, lay [iv i] H') := rfl
      have kp : ∀ {x : AV} {m : List Int}, Gro 1 encI H0.nx H' x m → Gro 1 encI H0.nx (lay [iv i] H') x m := fun h => h.keep (by simp [lay]) fun q hq => get_push_ne _ _ _ (by have := (h.vid hq).2; omega)
      obtain ⟨o1, o2⟩ := one_cells (es := 1) (enc := encI) (H := lay [iv i] H') (x := (i : Int)) (i := H'.nx) (get_push_same ..) rfl
      obtain ⟨ex, H2, a1, a2, a3, a4⟩ := gro_append (es := 1) (enc := encI) (by_ := 8) (N := H0.nx) (m := [(i : Int)]) lenI (fun _ => rfl) (by omega) (by omega) (by omega) (kp hu) (by simp [lay]; omega) o1 o2 (by simp) (by rw [List.length_singleton]; omega)
      rw [← hup] at a1 a3
      have nxl : (lay [iv i] H').nx = H'.nx + 1 := rfl
      simp (disch := (first | omega | (unfold InR; omega))) only [go_sem, ↓reduceIte, Nat.reduceEqDiff, Nat.reduceAdd, t8, t9, d2, e2, a1]
      refine ih (i + 1) v _ _ H2 (by omega) (by omega) (fun q hq => ?_) ((kp hg).keep (by omega) fun q hq => a4 q (by have := (hg.vid hq).2; omega) (hd q hq)) (.inr ⟨_, ex, by omega, by omega, rfl, a3⟩) (fun q hq e => ?_) ?_ ?_ ?_ ?_
      · rw [a4 q (by omega) (fun e => by have := (hu.vid e).1; omega)]
        exact (get_push_ne _ _ _ (by omega)).trans (keep q hq)
      · cases e; have := (hg.vid hq).2; omega
      · simp only [go_sem, ↓reduceIte, Nat.reduceEqDiff, t0]
      · simp only [go_sem, ↓reduceIte, Nat.reduceEqDiff, t5]
      · simp only [go_sem, ↓reduceIte, Nat.reduceEqDiff]
      · simp only [go_sem, ↓reduceIte, Nat.reduceEqDiff, Int.natCast_add, Int.natCast_one]
    · have d2 : decide ((i : Int) ∈ out) = false := dF hm
      have hup : upto out (i + 1) = upto out i := by rw [upto, if_neg hm]
      simp (disch := (first | omega | (unfold InR; omega))) only [go_sem, ↓reduceIte, Nat.reduceEqDiff, Nat.reduceAdd, t9, d2, Bool.false_eq_true]
      refine ih (i + 1) v u _ _ (by omega) nx keep hg (by rw [hup]; exact hu) hd ?_ ?_ ?_ ?_
      all_goals simp only [go_sem, ↓reduceIte, Nat.reduceEqDiff, t0, t5, t8, Int.natCast_add, Int.natCast_one]
def leastM (counts : List Int) (c : Nat) : List Int := if (idx counts c counts.length).length < 4 then [] else sortS ltI (four counts c)
theorem least_does {counts : List Int} {c : Nat} (hl : counts.length ≤ 1000) (hx : ∀ x, x ∈ counts → 1 ≤ x ∧ x ≤ 4096) {H : AHeap} {R : AV → AHeap → Prop} (hR : R (lstE 1 encI (leastM counts c)) H) : CallV tbl f_ref33_least [lstE 1 encI counts, iv c] H R := by
  refine CallV.fresh fun hf => ?_
  refine T.callW rfl ?_
  simp only [c_ref33_least, a29, go_sem, ↓reduceIte, Nat.reduceEqDiff, Nat.reduceAdd]
  refine least_loop0 (H0 := H) (c := c) hl hx (fun hlt T' H' keep t4 => ?_) (fun hge T' H' v' nx keep hg t0 t5 => ?_) 4 0 .nilsl _ _ (by omega) (by omega) (Nat.le_refl _) (fun _ _ => rfl) (.inl ⟨rfl, rfl⟩) ?_ ?_ ?_
  · rw [srt_len] at hlt
    rw [leastM, if_pos hlt] at hR
    simp only [go_sem, ↓reduceIte, Nat.reduceEqDiff, t4]
    exact Fin.reset hf keep (.nilsl 1) hR
  · rw [srt_len] at hge
    rw [leastM, if_neg (by omega), ← upto_four] at hR
    simp only [go_sem, ↓reduceIte, Nat.reduceEqDiff]
    have h4 : ((srt counts c).take 4).length ≤ 4 := by rw [List.length_take]; omega
    refine least_loop2 (H0 := H) (out := (srt counts c).take 4) (n := counts.length) (by omega) (by omega) (l := counts) rfl (fun T2 H2 u nx2 keep2 hu t8 => ?_) counts.length 0 v' .nilsl _ _ (by omega) nx keep hg (.inl ⟨rfl, rfl⟩) (fun j _ e => by cases e) ?_ ?_ ?_ ?_
    · simp only [go_sem, ↓reduceIte, Nat.reduceEqDiff, t8]
      refine Fin.reset hf keep2 (r2 := lstE 1 encI (upto (four counts c) counts.length)) ?_ hR
      rcases hu with ⟨rfl, e⟩ | ⟨j, ex, w1, w2, rfl, w3⟩
      · have e' : upto (four counts c) counts.length = [] := e
        rw [e']; exact .nilsl 1
      · exact frz_list lenI pure_encI rfl w1 w3
    · simp only [go_sem, ↓reduceIte, Nat.reduceEqDiff, t0]
    · simp only [go_sem, ↓reduceIte, Nat.reduceEqDiff, t5]
    · simp only [go_sem, ↓reduceIte, Nat.reduceEqDiff]
    · simp only [go_sem, ↓reduceIte]; rfl
  all_goals simp only [go_sem, ↓reduceIte, Nat.reduceEqDiff]
end Go.AM.T
/- The specification's Pick. -/
namespace Go.AM.T
open Go Go.AM
theorem leastM_pick (counts : List Int) (c : Nat) : ((leastM counts c).length = 0 ∧ pickC counts c = none) ∨ ((leastM counts c).length = 4 ∧ (∀ p, p ∈ leastM counts c → 0 ≤ p ∧ p < counts.length) ∧ (tot counts (leastM counts c) ≤ 4096 → pickC counts c = some (leastM counts c)) ∧ (4096 < tot counts (leastM counts c) → pickC counts c = none)) := by
  unfold leastM pickC
  split
  · exact .inl ⟨rfl, rfl⟩
  · rename_i h
    have hl : (four counts c).length = 4 := by unfold four ltK; rw [List.length_take, sortS_len (swo_key (key counts))]; omega
    have hp := (sortS_stab swo_I (four counts c)).fil.perm
    have ht := tot_perm counts hp
    refine .inr ⟨by rw [sortS_len swo_I, hl], fun p hp' => ?_, fun hs => ?_, fun hs => ?_⟩
    · have := idx_mem (four_mem (hp.mem_iff.1 hp')); exact ⟨this.1, this.2.1⟩
    · rw [if_neg (by omega)]
    · rw [if_pos (by omega)]
theorem rpick_loop {counts : List Int} (hl : counts.length ≤ 1000) (hx : ∀ x, x ∈ counts → 1 ≤ x ∧ x ≤ 4096) {H : AHeap} {k : List KI} {Q : AExit → Fr → AHeap → Prop} : ∀ (m c : Nat) (T : Fr), c + m = 5 → gN T 0 = lstE 1 encI counts → gN T 3 = iv c →
    (∀ T', pickF counts m c = [] → GoW tbl Q k (.exit 0) T' H) → (∀ T', gN T' 2 = lstE 1 encI (pickF counts m c) → GoW tbl Q k .ret T' H) → GoS tbl (.code (.loop kc_ref33_Pick_l0) :: k) .normal T H Q := by
  have hx0 : ∀ x, x ∈ counts → 0 ≤ x ∧ x ≤ 4096 := fun x h => ⟨by have := hx x h; omega, (hx x h).2⟩
  intro m
  induction m with
  | zero =>
    intro c T hc t0 t3 h1 h2
    refine GoS.loopD (a' := c_ref33_Pick_l0) rfl (GoW.sound ?_)
    have d0 : decide ((c : Int) ≤ 4) = false := dF (by omega)
    simp (disch := omega) only [c_ref33_Pick_l0, go_sem, ↓reduceIte, Nat.reduceEqDiff, Nat.reduceAdd, t3, d0, Bool.false_eq_true]
    exact h1 _ rfl
  | succ m ih =>
    intro c T hc t0 t3 h1 h2
    refine GoS.loopD (a' := c_ref33_Pick_l0) rfl (GoW.sound ?_)
    have d0 : decide ((c : Int) ≤ 4) = true := dT (by omega)
    simp (disch := omega) only [c_ref33_Pick_l0, go_sem, ↓reduceIte, Nat.reduceEqDiff, Nat.reduceAdd, t0, t3, d0]
    refine GoS.call ?_
    simp only [go_sem, ↓reduceIte, Nat.reduceEqDiff, evs]
    refine least_does hl hx (GoW.sound ?_)
    have next : pickC counts c = none → ∀ T' : Fr, gN T' 0 = lstE 1 encI counts → gN T' 3 = iv ((c + 1 : Nat) : Int) → GoS tbl (.code (.loop kc_ref33_Pick_l0) :: k) .normal T' H Q := fun e T' a b => by
      have e2 : pickF counts (m + 1) c = pickF counts m (c + 1) := by rw [pickF, e]
      rw [e2] at h1 h2
      exact ih (c + 1) T' (by omega) a b h1 h2
    rcases leastM_pick counts c with ⟨g1, g2⟩ | ⟨g1, g2, g3, g4⟩
    · have d1 : decide (0 < ((leastM counts c).length : Int)) = false := dF (by omega)
      simp (disch := (first | omega | (unfold InR; omega))) only [go_sem, ↓reduceIte, Nat.reduceEqDiff, Nat.reduceAdd, t0, t3, d1, Bool.false_eq_true, reduceCtorEq]
      refine next g2 _ ?_ ?_
      all_goals simp only [go_sem, ↓reduceIte, Nat.reduceEqDiff, t0, Int.natCast_add, Int.natCast_one]
    · have d1 : decide (0 < ((leastM counts c).length : Int)) = true := dT (by omega)
      simp (disch := (first | omega | (unfold InR; omega))) only [go_sem, ↓reduceIte, Nat.reduceEqDiff, Nat.reduceAdd, t0, t3, d1, Bool.false_eq_true, reduceCtorEq]
      refine GoS.call ?_
      simp only [go_sem, ↓reduceIte, Nat.reduceEqDiff, evs]
      refine rsum_does hx0 (by omega) g2 (GoW.sound ?_)
      by_cases hs : tot counts (leastM counts c) ≤ 4096
      · have d2 : decide (tot counts (leastM counts c) ≤ 4096) = true := dT hs
        have e2 : pickF counts (m + 1) c = leastM counts c := by rw [pickF, g3 hs]
        simp (disch := (first | omega | (unfold InR; omega))) only [go_sem, ↓reduceIte, Nat.reduceEqDiff, Nat.reduceAdd, t0, t3, d2, Bool.false_eq_true, reduceCtorEq]
        refine h2 _ ?_
        simp only [go_sem, ↓reduceIte, Nat.reduceEqDiff, e2]
      · have d2 : decide (tot counts (leastM counts c) ≤ 4096) = false := dF hs
        simp (disch := (first | omega | (unfold InR; omega))) only [go_sem, ↓reduceIte, Nat.reduceEqDiff, Nat.reduceAdd, t0, t3, d2, Bool.false_eq_true, reduceCtorEq]
        refine next (g4 (by omega)) _ ?_ ?_
        all_goals simp only [go_sem, ↓reduceIte, Nat.reduceEqDiff, t0, Int.natCast_add, Int.natCast_one]
theorem rpick_does {counts : List Int} (hl : counts.length ≤ 1000) (hx : ∀ x, x ∈ counts → 1 ≤ x ∧ x ≤ 4096) {H : AHeap} {R : AV → AHeap → Prop} (hR : R (lstE 1 encI (pickM counts)) H) : CallV tbl f_ref33_Pick [lstE 1 encI counts] H R := by
  refine CallV.fresh fun hf => ?_
  refine T.callW rfl ?_
  simp only [c_ref33_Pick, a14, go_sem, ↓reduceIte, Nat.reduceEqDiff, Nat.reduceAdd]
  refine rpick_loop hl hx 5 0 _ (by omega) ?_ ?_ (fun T' e => ?_) fun T' t2 => ?_
  · simp only [go_sem, ↓reduceIte, Nat.reduceEqDiff]
  · simp only [go_sem, ↓reduceIte]; rfl
  · simp only [go_sem, ↓reduceIte, Nat.reduceEqDiff]
    have e' : pickM counts = [] := e
    rw [e'] at hR
    exact Fin.reset hf (fun _ _ => rfl) (.nilsl 1) hR
  · simp only [go_sem, ↓reduceIte, Nat.reduceEqDiff, t2]
    exact .same hR
end Go.AM.T
/- The specification's Settle: what is left. -/
namespace Go.AM.T
open Go Go.AM
theorem rest_len (L ps : List Int) : ∀ k, (rest L ps k).length ≤ k := by
  intro k
  induction k with
  | zero => exact Nat.le_refl 0
  | succ k ih =>
    unfold rest
    split
    · omega
    · rw [List.length_append, List.length_singleton]; omega
theorem rset_loop1 {H0 : AHeap} {L ps : List Int} {b3 : Nat} {m : AV} (hl : L.length ≤ 1000) (hp : ps.length ≤ 1000) (hb3 : b3 < H0.nx) {k : List KI} {Q : AExit → Fr → AHeap → Prop} {T0 : Fr}
    (h : ∀ T' H' u, H0.nx ≤ H'.nx → (∀ i, i < H0.nx → H'.get i = H0.get i) → Gro 1 encI H0.nx H' u (rest L ps L.length) → (∀ s, s ≤ 5 → gN T' s = gN T0 s) → gN T' 6 = u → GoW tbl Q k (.exit 2) T' H') (hc0 : H0.get b3 = some (.cells [lstE 1 encI L, m] .own)) (z3 : gN T0 3 = .ptr b3 0) (z4 : gN T0 4 = lstE 1 encI ps) :
    ∀ (d i : Nat) (u : AV) (T : Fr) (H : AHeap), i + d = L.length → H0.nx ≤ H.nx → (∀ i, i < H0.nx → H.get i = H0.get i) → Gro 1 encI H0.nx H u (rest L ps i) → (∀ s, s ≤ 5 → gN T s = gN T0 s) → gN T 6 = u → gN T 7 = iv i →
    GoS tbl (.code (.loop kc_ref33_Settle_l1) :: k) .normal T H Q := by
  intro d
  induction d with
  | zero =>
    intro i u T H hi nx keep hu hz t6 t7
    have hii : L.length = i := by omega
    have t3 := (hz 3 (by omega)).trans z3
    have f1 : opFaddr 0 (.ptr b3 0) = some (.ptr b3 0) := rfl
    have ld : opLoad (.ptr b3 0) false 1 H = some (lstE 1 encI L, H) := load_arr ((keep b3 hb3).trans hc0) rfl
    have d0 : decide ((i : Int) < (L.length : Int)) = false := dF (by omega)
    refine GoS.loopD (a' := c_ref33_Settle_l1) rfl (GoW.sound ?_)
    simp (disch := omega) only [c_ref33_Settle_l1, go_sem, ↓reduceIte, Nat.reduceEqDiff, Nat.reduceAdd, t3, t7, f1, ld, d0, Bool.false_eq_true]
    refine h _ _ u nx keep (by rw [hii]; exact hu) (fun s hs => (Eq.trans ?_ (hz s hs))) ?_
    · simp (disch := omega) only [go_sem, if_neg]
    · simp only [go_sem, ↓reduceIte, Nat.reduceEqDiff, t6]
  | succ d ih =>
    intro i u T H hi nx keep hu hz t6 t7
    have t3 := (hz 3 (by omega)).trans z3
    have t4 := (hz 4 (by omega)).trans z4
    have f1 : opFaddr 0 (.ptr b3 0) = some (.ptr b3 0) := rfl
    have hg3 := (keep b3 hb3).trans hc0
    have ld : opLoad (.ptr b3 0) false 1 H = some (lstE 1 encI L, H) := load_arr hg3 rfl
    have d0 : decide ((i : Int) < (L.length : Int)) = true := dT (by omega)
    have hrl := rest_len L ps i
    refine GoS.loopD (a' := c_ref33_Settle_l1) rfl (GoW.sound ?_)
    simp (disch := omega) only [c_ref33_Settle_l1, go_sem, ↓reduceIte, Nat.reduceEqDiff, Nat.reduceAdd, t3, t4, t7, f1, ld, d0]
    refine GoS.call ?_
    simp only [go_sem, ↓reduceIte, Nat.reduceEqDiff, evs]
    refine has_does (by omega) (GoW.sound ?_)
    by_cases hm : (i : Int) ∈ ps
    · have d2 : decide ((i : Int) ∈ ps) = true := dT hm
      have hrs : rest L ps (i + 1) = rest L ps i := by rw [rest, if_pos hm]
      simp (disch := (first | omega | (unfold InR; omega))) only [go_sem, ↓reduceIte, Nat.reduceEqDiff, Nat.reduceAdd, t7, d2, Bool.not_true, Bool.false_eq_true]
      refine ih (i + 1) u _ _ (by omega) nx keep (by rw [hrs]; exact hu) (fun s hs => (Eq.trans ?_ (hz s hs))) ?_ ?_
      · simp (disch := omega) only [go_sem, if_neg]
      · simp only [go_sem, ↓reduceIte, Nat.reduceEqDiff, t6]
      · simp only [go_sem, ↓reduceIte, Nat.reduceEqDiff, Int.natCast_add, Int.natCast_one]
    · have d2 : decide ((i : Int) ∈ ps) = false := dF hm
      have hrs : rest L ps (i + 1) = rest L ps i ++ [nth L i] := by rw [rest, if_neg hm]
      have e2 : opBslice 1 1 [iv 0] [(0, 1, iv (nth L i))] H = some (.sl H.nx 0 1 1 1 true, lay [iv (nth L i)] H) := rfl
      have hu2 : Gro 1 encI H0.nx (lay [iv (nth L i)] H) u (rest L ps i) := hu.keep (by simp [lay]) fun q hq => get_push_ne _ _ _ (by have := (hu.vid hq).2; omega)
      obtain ⟨o1, o2⟩ := one_cells (es := 1) (enc := encI) (H := lay [iv (nth L i)] H) (x := nth L i) (i := H.nx) (get_push_same ..) rfl
      obtain ⟨ex, H2, a1, a2, a3, a4⟩ := gro_append (es := 1) (enc := encI) (by_ := 8) (N := H0.nx) (m := [nth L i]) lenI (fun _ => rfl) (by omega) (by omega) (by omega) hu2 (by simp [lay]; omega) o1 o2 (by simp) (by rw [List.length_singleton]; omega)
      rw [← hrs] at a1 a3
      have nxl : (lay [iv (nth L i)] H).nx = H.nx + 1 := rfl
      simp (disch := (first | omega | (unfold InR; omega))) only [go_sem, ↓reduceIte, Nat.reduceEqDiff, Nat.reduceAdd, t3, t6, t7, d2, f1, ld, e2, a1, Bool.not_false]
      refine ih (i + 1) _ _ H2 (by omega) (by omega) (fun q hq => ?_) (.inr ⟨_, ex, by omega, by omega, rfl, a3⟩) (fun s hs => (Eq.trans ?_ (hz s hs))) ?_ ?_
      · rw [a4 q (by omega) (fun e => by have := (hu.vid e).1; omega)]
        exact (get_push_ne _ _ _ (by omega)).trans (keep q hq)
      · simp (disch := omega) only [go_sem, if_neg]
      · simp only [go_sem, ↓reduceIte, Nat.reduceEqDiff]
      · simp only [go_sem, ↓reduceIte, Nat.reduceEqDiff, Int.natCast_add, Int.natCast_one]
end Go.AM.T
/- The specification's Settle, whole. -/
namespace Go.AM.T
open Go Go.AM
theorem rset_stop {H0 : AHeap} {b2 b3 : Nat} (hb2 : H0.nx ≤ b2) {k : List KI} {Q : AExit → Fr → AHeap → Prop} {L : List Int} {m : Int} {T : Fr} {H : AHeap} (hL : L.length ≤ 1000) (hx : ∀ x, x ∈ L → 1 ≤ x ∧ x ≤ 4096) (hp : (pickM L).length = 0)
    (g3 : H.get b3 = some (.cells [lstE 1 encI L, iv m] .own)) (g2 : H.get b2 = some (.cells [.nilsl, iv 0] .own)) (keep : ∀ i, i < H0.nx → H.get i = H0.get i) (t2 : gN T 2 = .ptr b2 0) (t3 : gN T 3 = .ptr b3 0)
    (h : ∀ T' H', (∀ i, i < H0.nx → H'.get i = H0.get i) → H'.get b2 = some (.cells [lstE 1 encI L, iv m] .own) → gN T' 2 = .ptr b2 0 → GoW tbl Q k .ret T' H') :
    GoS tbl (.code (.loop kc_ref33_Settle_l0) :: k) .normal T H Q := by
  have f1 : opFaddr 0 (.ptr b3 0) = some (.ptr b3 0) := rfl
  have ld : opLoad (.ptr b3 0) false 1 H = some (lstE 1 encI L, H) := load_arr g3 rfl
  refine GoS.loopD (a' := c_ref33_Settle_l0) rfl (GoW.sound ?_)
  simp (disch := omega) only [c_ref33_Settle_l0, go_sem, ↓reduceIte, Nat.reduceEqDiff, Nat.reduceAdd, t3, f1, ld]
  refine GoS.call ?_
  simp only [go_sem, ↓reduceIte, Nat.reduceEqDiff, evs]
  refine rpick_does (by omega) hx (GoW.sound ?_)
  have d1 : decide (((pickM L).length : Int) = 0) = true := dT (by omega)
  have ld2 : opLoad (.ptr b3 0) true 2 H = some (.agg [lstE 1 encI L, iv m], H) := by
    have : H.load b3 0 2 = some [lstE 1 encI L, iv m] := load_eq g3 rfl
    simp only [opLoad, this]; rfl
  have st2 : opStore (.ptr b2 0) (.agg [lstE 1 encI L, iv m]) 2 H = some (.undef, H.put b2 (.cells [lstE 1 encI L, iv m] .own)) := by
    have : H.store b2 0 [lstE 1 encI L, iv m] = some (H.put b2 (.cells [lstE 1 encI L, iv m] .own)) := store_eq g2 rfl
    have c : cellsOf (.agg [lstE 1 encI L, iv m]) = some [lstE 1 encI L, iv m] := rfl
    simp only [opStore, asP, c, storeCs, this]; rfl
  simp (disch := omega) only [go_sem, ↓reduceIte, Nat.reduceEqDiff, Nat.reduceAdd, t2, t3, d1, ld2, st2]
  refine h _ _ (fun i hi => ?_) (get_put_same ..) ?_
  · rw [get_put_ne _ _ _ _ (by omega)]; exact keep i hi
  · simp only [go_sem, ↓reduceIte, Nat.reduceEqDiff, t2]
theorem rset_loop0 {H0 : AHeap} {b2 b3 : Nat} (hb : b2 ≠ b3) (hb2 : H0.nx ≤ b2) (hb3 : H0.nx ≤ b3) {k : List KI} (hn : noD k = true) {Q : AExit → Fr → AHeap → Prop} : ∀ (f : Nat) (L : List Int) (m : Int) (T : Fr) (H : AHeap), L.length ≤ f → f ≤ 1000 → (∀ x, x ∈ L → 1 ≤ x ∧ x ≤ 4096) → 0 ≤ m → m + 4096 * (f : Int) ≤ 100000000 →
    b2 < H.nx → b3 < H.nx → H.get b3 = some (.cells [lstE 1 encI L, iv m] .own) → H.get b2 = some (.cells [.nilsl, iv 0] .own) → H0.nx ≤ H.nx → (∀ i, i < H0.nx → H.get i = H0.get i) → gN T 2 = .ptr b2 0 → gN T 3 = .ptr b3 0 →
    (∀ T' H', (∀ i, i < H0.nx → H'.get i = H0.get i) → H'.get b2 = some (.cells [lstE 1 encI (settleF f L m).1, iv (settleF f L m).2] .own) → gN T' 2 = .ptr b2 0 → GoW tbl Q k .ret T' H') →
    GoS tbl (.code (.loop kc_ref33_Settle_l0) :: k) .normal T H Q := by
  intro f
  induction f with
  | zero =>
    intro L m T H hL hf hx hm0 hm1 hn2 hn3 g3 g2 nx keep t2 t3 h
    obtain rfl : L = [] := List.length_eq_zero_iff.1 (by omega)
    have hp : (pickM []).length = 0 := by decide +kernel
    exact rset_stop hb2 (by simp) hx hp g3 g2 keep t2 t3 h
  | succ f ih =>
    intro L m T H hL hf hx hm0 hm1 hn2 hn3 g3 g2 nx keep t2 t3 h
    by_cases hp : (pickM L).length = 0
    · have es : settleF (f + 1) L m = (L, m) := by simp only [settleF, hp, if_true]
      rw [es] at h
      exact rset_stop hb2 (by omega) hx hp g3 g2 keep t2 t3 h
    · have f1 : opFaddr 0 (.ptr b3 0) = some (.ptr b3 0) := rfl
      have ld : opLoad (.ptr b3 0) false 1 H = some (lstE 1 encI L, H) := load_arr g3 rfl
      refine GoS.loopD (a' := c_ref33_Settle_l0) rfl (GoW.sound ?_)
      simp (disch := omega) only [c_ref33_Settle_l0, go_sem, ↓reduceIte, Nat.reduceEqDiff, Nat.reduceAdd, t3, f1, ld]
      refine GoS.call ?_
      simp only [go_sem, ↓reduceIte, Nat.reduceEqDiff, evs]
      refine rpick_does (by omega) hx (GoW.sound ?_)
      have d1 : decide (((pickM L).length : Int) = 0) = false := dF (by omega)
      simp (disch := omega) only [go_sem, ↓reduceIte, Nat.reduceEqDiff, Nat.reduceAdd, t2, t3, f1, ld, d1, Bool.false_eq_true]
      have hx0 : ∀ x, x ∈ L → 0 ≤ x ∧ x ≤ 4096 := fun x h => ⟨by have := hx x h; omega, (hx x h).2⟩
      rcases pickM_ok L with e | ok
      · rw [e] at hp; exact absurd rfl hp
      have p4 := ok.len
      refine GoS.call ?_
      simp only [go_sem, ↓reduceIte, Nat.reduceEqDiff, evs]
      refine rsum_does hx0 (by omega) ok.mem (GoW.sound ?_)
      simp (disch := omega) only [go_sem, ↓reduceIte, Nat.reduceEqDiff, Nat.reduceAdd]
      refine rset_loop1 (H0 := H) (ps := pickM L) (m := iv m) (by omega) (by omega) hn3 (fun T1 H1 u n1 k1 hu z z6 => ?_) g3 ?_ ?_ L.length 0 .nilsl _ H (by omega) (Nat.le_refl _) (fun _ _ => rfl) (.inl ⟨rfl, rfl⟩) (fun _ _ => rfl) ?_ ?_
      · have z2 := z 2 (by omega)
        have z3 := z 3 (by omega)
        have z5 := z 5 (by omega)
        simp only [go_sem, ↓reduceIte, Nat.reduceEqDiff, t2, t3] at z2 z3 z5
        have htot : 0 ≤ tot L (pickM L) := by have := tot_ge hx ok.mem; omega
        have hsum := ok.sum
        have g3' : H1.get b3 = some (.cells [lstE 1 encI L, iv m] .own) := (k1 b3 hn3).trans g3
        have e1 : opBslice 1 1 [iv 0] [(0, 1, iv (tot L (pickM L)))] H1 = some (.sl H1.nx 0 1 1 1 true, lay [iv (tot L (pickM L))] H1) := rfl
        have hu2 : Gro 1 encI H.nx (lay [iv (tot L (pickM L))] H1) u (rest L (pickM L) L.length) := hu.keep (by simp [lay]) fun q hq => get_push_ne _ _ _ (by have := (hu.vid hq).2; omega)
        obtain ⟨o1, o2⟩ := one_cells (es := 1) (enc := encI) (H := lay [iv (tot L (pickM L))] H1) (x := tot L (pickM L)) (i := H1.nx) (get_push_same ..) rfl
        have hrl := rest_len L (pickM L) L.length
        obtain ⟨ex, H2, a1, a2, a3, a4⟩ := gro_append (es := 1) (enc := encI) (by_ := 8) (N := H.nx) (m := [tot L (pickM L)]) lenI (fun _ => rfl) (by omega) (by omega) (by omega) hu2 (by simp [lay]; omega) o1 o2 (by simp) (by rw [List.length_singleton]; omega)
        have hnext : rest L (pickM L) L.length ++ [tot L (pickM L)] = next L (pickM L) := by rw [next, outS_rest ok.asc ok.mem, (outS_ok ok.asc ok.mem).sum]
        rw [hnext] at a1 a3
        have hnl := next_len hp
        have oo := outS_ok ok.asc ok.mem
        have hs4 : 1 ≤ tot L (pickM L) := by have := tot_ge hx ok.mem; omega
        have hnl2 : (next L (pickM L)).length ≤ 1000 := by omega
        have ge : ∀ q, q < H1.nx → (lay [iv (tot L (pickM L))] H1).get q = H1.get q := fun q hq => get_push_ne _ _ _ (by omega)
        have nxl : (lay [iv (tot L (pickM L))] H1).nx = H1.nx + 1 := rfl
        have vu : ∀ q, vid u = some q → q ≠ b3 ∧ q ≠ b2 := fun q hq => by have := (hu2.vid hq).1; omega
        have g3a : (lay [iv (tot L (pickM L))] H1).get b3 = some (.cells [lstE 1 encI L, iv m] .own) := (ge b3 (by omega)).trans g3'
        have g3b : H2.get b3 = some (.cells [lstE 1 encI L, iv m] .own) := (a4 b3 (by omega) (fun e => (vu _ e).1 rfl)).trans g3a
        have ld1 : H2.load b3 1 1 = some [iv m] := load_eq g3b rfl
        have f3 : opFaddr 1 (.ptr b3 0) = some (.ptr b3 1) := rfl
        have ld3 : opLoad (.ptr b3 1) false 1 H2 = some (iv m, H2) := load_arr g3b rfl
        have ba : bin .add (iv m) (iv (tot L (pickM L))) = some (iv (m + tot L (pickM L))) := bin_add (by unfold InR; omega)
        have k1' : Rcd.ok (lay [iv (tot L (pickM L))] H1) (.cells b3 1 1 [iv m] 0 1) = true := by
          have : (lay [iv (tot L (pickM L))] H1).load b3 1 1 = some [iv m] := load_eq g3a rfl
          simp [Rcd.ok, this, avsEq, avEq, ikEq_refl, intEq_iff]
        have k2' : Rcd.ok H2 (.cells b3 1 1 [iv m] 0 1) = true := by simp [Rcd.ok, ld1, avsEq, avEq, ikEq_refl, intEq_iff]
        generalize hv : AV.sl (lay [iv (tot L (pickM L))] H1).nx 0 (next L (pickM L)).length (next L (pickM L)).length 1 ex = v at a1
        have st3 : opStore (.ptr b3 0) (.agg [v, iv (m + tot L (pickM L))]) 2 H2 = some (.undef, H2.put b3 (.cells [v, iv (m + tot L (pickM L))] .own)) := by
          have h1 : H2.store b3 0 [v, iv (m + tot L (pickM L))] = some (H2.put b3 (.cells [v, iv (m + tot L (pickM L))] .own)) := store_eq g3b rfl
          have c : cellsOf (.agg [v, iv (m + tot L (pickM L))]) = some [v, iv (m + tot L (pickM L))] := rfl
          have ac : allCells [v, iv (m + tot L (pickM L))] = true := by rw [← hv]; rfl
          simp only [opStore, asP, c, storeCs, ac, h1]; rfl
        have bl : opBuild [.nilsl, iv 0] [(0, 1, v), (1, 1, iv (m + tot L (pickM L)))] H2 = some (.agg [v, iv (m + tot L (pickM L))], H2) := by rw [← hv]; rfl
        simp (disch := omega) only [Option.getD_none, go_sem, ↓reduceIte, Nat.reduceEqDiff, Nat.reduceAdd, z2, z3, z5, z6, e1, a1, f3, ld3, ba, bl, st3, lOk, recD, rcdOf, wants, ld1, Nat.beq, Nat.ble, Bool.false_eq_true, if_false, Option.isSome, true_and, List.nil_append, List.reverse_cons, List.reverse_nil, List.cons_append, stagesOk, Rcd.lo, Rcd.hi, k1', k2', Bool.and_self]
        have hmt : m + tot L (pickM L) = m + (outS L (pickM L)).2 := by rw [oo.sum]
        refine ⟨by simp, ?_⟩
        refine GoS.freezeC rfl (i := H1.nx + 1) (c := b3) (cs := (next L (pickM L)).flatMap encI) (xs := [v, iv (m + tot L (pickM L))]) (ys := [lstE 1 encI (next L (pickM L)), iv (m + tot L (pickM L))]) (st := .own) (st2 := .own) ?_ (get_put_same ..) (by omega) ?_ (fun _ => .same _) ?_
        · rw [get_put_ne _ _ _ _ (by omega)]; exact a3
        · have hfl := flat_len (enc := encI) lenI (next L (pickM L))
          refine .cons _ _ _ _ ?_ (.cons _ _ _ _ (.same _) .nil)
          rw [← hv]
          exact .sl 0 _ _ 1 ex _ (rangeOf_iff.2 ⟨by omega, by rw [List.drop_zero, List.take_of_length_le (by omega)]⟩) (Nat.le_refl _)
        · have es : settleF (f + 1) L m = settleF f (next L (pickM L)) (m + tot L (pickM L)) := by rw [settleF, if_neg hp, hmt]
          rw [es] at h
          refine ih (next L (pickM L)) (m + tot L (pickM L)) _ _ (by omega) (by omega) (fun x hx' => ?_) (by omega) (by omega) ?_ ?_ (get_put_same ..) ?_ ?_ (fun q hq => ?_) ?_ ?_ h
          · rcases List.mem_append.1 hx' with h1 | h1
            · exact hx x (oo.mem x h1)
            · rw [List.mem_singleton] at h1; rw [h1, oo.sum]; omega
          · show b2 < H2.nx; omega
          · show b3 < H2.nx; omega
          · rw [get_put_ne _ _ _ _ (Ne.symm hb), get_put_ne _ _ _ _ (by omega), get_put_ne _ _ _ _ (Ne.symm hb), a4 b2 (by omega) (fun e => (vu _ e).2 rfl), ge b2 (by omega), k1 b2 hn2]; exact g2
          · show H0.nx ≤ H2.nx; omega
          · rw [get_put_ne _ _ _ _ (by omega), get_put_ne _ _ _ _ (by omega), get_put_ne _ _ _ _ (by omega), a4 q (by omega) (fun e => by have := (hu2.vid e).1; omega), ge q (by omega), k1 q (by omega)]; exact keep q hq
          · simp only [go_sem, ↓reduceIte, Nat.reduceEqDiff, z2]
          · simp only [go_sem, ↓reduceIte, Nat.reduceEqDiff, z3]
      · simp only [go_sem, ↓reduceIte, Nat.reduceEqDiff, t3]
      · simp only [go_sem, ↓reduceIte, Nat.reduceEqDiff]
      · simp only [go_sem, ↓reduceIte, Nat.reduceEqDiff]
      · simp only [go_sem, ↓reduceIte]; rfl
end Go.AM.T
/- The specification's Settle, as a call. -/
namespace Go.AM.T
open Go Go.AM
theorem rset_does {l : List Int} (hl : l.length ≤ 1000) (hx : ∀ x, x ∈ l → 1 ≤ x ∧ x ≤ 4096) {H : AHeap} {R : AV → AHeap → Prop} (hR : R (.agg [lstE 1 encI (settleM l).1, iv (settleM l).2]) H) : CallV tbl f_ref33_Settle [lstE 1 encI l] H R := by
  refine CallV.fresh fun hf => ?_
  refine T.callW rfl ?_
  have e0 : opBslice 1 0 [] [] (lay [.nilsl, iv 0] H) = some (.sl (H.nx + 1) 0 0 0 1 true, lay [] (lay [.nilsl, iv 0] H)) := rfl
  obtain ⟨v, H1, j, a1, a2, a3, a4, a5⟩ := app0 (H := lay [.nilsl, iv 0] H) (v := lstE 1 encI l) (.inr rfl) hl
  have nl : (lay [.nilsl, iv 0] H).nx = H.nx + 1 := rfl
  rw [nl] at a1 a3 a5
  obtain ⟨post, ex, hv, hg, hz⟩ := a2
  have bl : opBuild [.nilsl, iv 0] [(0, 1, v)] H1 = some (.agg [v, iv 0], H1) := by rw [hv]; rfl
  have st : opStore (.ptr H1.nx 0) (.agg [v, iv 0]) 2 (lay [.nilsl, iv 0] H1) = some (.undef, (lay [.nilsl, iv 0] H1).put H1.nx (.cells [v, iv 0] .own)) := by
    have h1 : (lay [.nilsl, iv 0] H1).store H1.nx 0 [v, iv 0] = some ((lay [.nilsl, iv 0] H1).put H1.nx (.cells [v, iv 0] .own)) := store_eq (get_push_same ..) rfl
    have c : cellsOf (.agg [v, iv 0]) = some [v, iv 0] := rfl
    have ac : allCells [v, iv 0] = true := by rw [hv]; rfl
    simp only [opStore, asP, c, storeCs, ac, h1]; rfl
  have g2 : H1.get H.nx = some (.cells [.nilsl, iv 0] .own) := (a5 _ (by omega)).trans (get_push_same ..)
  simp only [c_ref33_Settle, a11, go_sem, ↓reduceIte, Nat.reduceEqDiff, Nat.reduceAdd, e0, nl, a1, bl, st]
  refine GoS.freezeC rfl (i := j) (c := H1.nx) (cs := l.flatMap encI ++ post) (xs := [v, iv 0]) (ys := [lstE 1 encI l, iv 0]) (st := .own) (st2 := .own) ?_ (get_put_same ..) (by omega) ?_ (fun _ => .same _) ?_
  · rw [get_put_ne _ _ _ _ (by omega)]; exact (get_push_ne _ _ _ (by omega)).trans hg
  · have hfl := flat_len (enc := encI) lenI l
    refine .cons _ _ _ _ ?_ (.cons _ _ _ _ (.same _) .nil)
    rw [hv]
    exact .sl 0 _ _ 1 ex _ (rangeOf_iff.2 ⟨by rw [List.length_append]; omega, by rw [List.drop_zero, Nat.mul_one, List.take_append_of_le_length (by omega), List.take_of_length_le (by omega)]⟩) (by omega)
  · refine rset_loop0 (H0 := H) (b2 := H.nx) (b3 := H1.nx) (by omega) (by omega) (by omega) rfl l.length l 0 _ _ (Nat.le_refl _) hl hx (by omega) (by omega) ?_ ?_ (get_put_same ..) ?_ ?_ (fun q hq => ?_) ?_ ?_ fun T' H' k2 g t2 => ?_
    · show H.nx < H1.nx + 1; omega
    · show H1.nx < H1.nx + 1; omega
    · rw [get_put_ne _ _ _ _ (by omega), get_put_ne _ _ _ _ (by omega), get_put_ne _ _ _ _ (by omega)]
      exact (get_push_ne _ _ _ (by omega)).trans g2
    · show H.nx ≤ H1.nx + 1; omega
    · rw [get_put_ne _ _ _ _ (by omega), get_put_ne _ _ _ _ (by omega), get_put_ne _ _ _ _ (by omega)]
      refine (get_push_ne _ _ _ (by omega)).trans ((a5 q (by omega)).trans (get_push_ne _ _ _ (by omega)))
    · simp only [go_sem, ↓reduceIte, Nat.reduceEqDiff]
    · simp only [go_sem, ↓reduceIte, Nat.reduceEqDiff]
    · have ld : H'.load H.nx 0 2 = some [lstE 1 encI (settleM l).1, iv (settleM l).2] := load_eq g rfl
      have pp : ∀ m : List Int, pureV (lstE 1 encI m) = true := fun m => pure_lstE pure_encI m
      simp only [go_sem, ↓reduceIte, Nat.reduceEqDiff, t2, ld, mkVal]
      exact Fin.reset hf k2 (.pure _ (by simp only [pureV, pureVs, pp, Bool.and_self])) hR
end Go.AM.T
/- MergePicksAsSpecified, in the abstract machine: it returns true. -/
namespace Go.AM.T
open Go Go.AM
theorem lOk_fp {lo : Nat} {l : List Int} {k : Nat} {d : Option (List Bool)} {x : AX} {T : Fr} {H : AHeap} (hx : ev T x = fpE 1 encI l k) (h : k < l.length) : lOk 0 lo 0 ⟨d, .load x false 1, none⟩ T H = true := by
  have := flat_get (es := 1) (enc := encI) (fun _ => rfl) (nth_get h)
  unfold lOk
  split
  · rfl
  · simp only [wants, hx, fpE, this, Option.isSome_some, Bool.and_true]; rfl
theorem recD_fp {lo : Nat} {l : List Int} {k : Nat} {d : Option (List Bool)} {x : AX} {T : Fr} {H : AHeap} (hx : ev T x = fpE 1 encI l k) : recD 0 lo ⟨d, .load x false 1, none⟩ T H = [] := by
  unfold recD
  split
  · rfl
  · simp only [rcdOf, wants, hx, fpE]
theorem picks_loop {l : List Int} (hl : l.length ≤ 1000) (hx : ∀ x, x ∈ l → 1 ≤ x ∧ x ≤ 4096) {k : List KI} {Q : AExit → Fr → AHeap → Prop} {H : AHeap} : ∀ (d i : Nat) (T : Fr), i + d = l.length → gN T 0 = lstE 1 encI l → gN T 3 = iv i →
    (∀ T', gN T' 0 = lstE 1 encI l → GoW tbl Q k (.exit 0) T' H) → GoS tbl (.code (.loop kc_law33_MergePicksAsSpecified_l0) :: k) .normal T H Q := by
  intro d
  induction d with
  | zero =>
    intro i T hi t0 t3 h
    refine GoS.loopD (a' := c_law33_MergePicksAsSpecified_l0) rfl (GoW.sound ?_)
    simp (disch := omega) only [c_law33_MergePicksAsSpecified_l0, go_sem, ↓reduceIte, Nat.reduceEqDiff, Nat.reduceAdd, t0, t3, dF, Bool.false_eq_true]
    refine h _ ?_
    simp only [go_sem, ↓reduceIte, Nat.reduceEqDiff, t0]
  | succ d ih =>
    intro i T hi t0 t3 h
    have hk := hx _ (List.mem_of_getElem? (nth_get (l := l) (k := i) (by omega)))
    have d0 : decide ((i : Int) < (l.length : Int)) = true := dT (by omega)
    have b01 : Nat.beq 0 1 = false := rfl
    refine GoS.loopD (a' := c_law33_MergePicksAsSpecified_l0) rfl (GoW.sound ?_)
    simp (disch := omega) only [c_law33_MergePicksAsSpecified_l0, go_sem, ↓reduceIte, Nat.reduceEqDiff, Nat.reduceAdd, t0, t3, d0, true_and]
    refine GoS.callF ?_
    simp only [go_sem, ↓reduceIte, Nat.reduceEqDiff, evs]
    refine (class_callF (by omega)).mono ?_
    rintro v H' ⟨rfl, rfl⟩
    refine GoW.sound ?_
    have e24 : ∀ T' : Fr, gN T' 24 = fpE 1 encI l i → ev T' x24 = fpE 1 encI l i := fun T' h => by simpa only [go_sem] using h
    simp (disch := (first | omega | (unfold InR; omega))) only [go_sem, ↓reduceIte, Nat.reduceEqDiff, Nat.reduceAdd, t0, t3]
    rw [recD_fp (l := l) (k := i) (by simp only [go_sem, ↓reduceIte, Nat.reduceEqDiff])]
    refine ⟨lOk_fp (l := l) (k := i) (by simp only [go_sem, ↓reduceIte, Nat.reduceEqDiff]) (by omega), ?_⟩
    simp (disch := (first | omega | (unfold InR; omega))) only [go_sem, ↓reduceIte, Nat.reduceEqDiff, Nat.reduceAdd, t0, t3]
    refine GoS.callF ?_
    simp only [go_sem, ↓reduceIte, Nat.reduceEqDiff, evs]
    refine (rclass_callF (by omega)).mono ?_
    rintro v H' ⟨rfl, rfl⟩
    refine GoW.sound ?_
    simp (disch := (first | omega | (unfold InR; omega))) only [go_sem, ↓reduceIte, Nat.reduceEqDiff, Nat.reduceAdd, t0, t3, ne_eq, not_true_eq_false, decide_false, Bool.false_eq_true, true_and]
    refine ih (i + 1) _ (by omega) ?_ ?_ h
    all_goals simp only [go_sem, ↓reduceIte, Nat.reduceEqDiff, t0, Int.natCast_add, Int.natCast_one]
theorem picks_does {l : List Int} (hlen : l.length ≤ 1125899906842624) {H : AHeap} {R : AV → AHeap → Prop} (hR : R (.bool true) H) : CallV tbl 3 [lstE 1 encI l] H R := by
  refine CallV.fresh fun hf => ?_
  refine T.callW rfl ?_
  simp only [c_law33_MergePicksAsSpecified, a3, go_sem, ↓reduceIte, Nat.reduceEqDiff, Nat.reduceAdd]
  refine GoS.call ?_
  simp only [go_sem, ↓reduceIte, Nat.reduceEqDiff, evs]
  refine counts_does hlen (GoW.sound ?_)
  cases hc : (cOk l && decide ((l.length : Int) ≤ 80)) with
  | false =>
    simp only [go_sem, ↓reduceIte, Nat.reduceEqDiff, Bool.not_false]
    refine GoS.call ?_
    simp only [go_sem, ↓reduceIte, Nat.reduceEqDiff, evs]
    refine sanity_does (GoW.sound ?_)
    simp only [go_sem, ↓reduceIte, Nat.reduceEqDiff]
    exact .same hR
  | true =>
    rw [Bool.and_eq_true, decide_eq_true_eq] at hc
    have hx : ∀ x, x ∈ l → 1 ≤ x ∧ x ≤ 4096 := fun x h => cOk_mem hc.1 h
    have hx0 : ∀ x, x ∈ l → 0 ≤ x ∧ x ≤ 4096 := fun x h => ⟨by have := hx x h; omega, (hx x h).2⟩
    have h80 : l.length ≤ 80 := by omega
    have hp : (pickM l).length ≤ 1000 := by
      rcases pickM_ok l with e | ok
      · rw [e]; simp
      · have := ok.len; omega
    have hs : (settleM l).1.length ≤ 1000 := by
      obtain ⟨s1, s2, s3, s4, s5⟩ := settleM_ok hx
      have lf := len_few s1 s3
      rw [s2] at lf
      have ub : ∀ (m : List Int), (∀ x, x ∈ m → 1 ≤ x ∧ x ≤ 4096) → suml m ≤ 4096 * (m.length : Int) := by
        intro m
        induction m with
        | nil => intro _; simp [suml]
        | cons x m ih => intro h; have h1 := h x (by simp); have h2 := ih fun y hy => h y (by simp [hy]); simp only [suml, List.length_cons]; omega
      have := ub l hx
      omega
    simp only [go_sem, ↓reduceIte, Nat.reduceEqDiff, Bool.not_true, Bool.false_eq_true]
    refine picks_loop (by omega) hx l.length 0 _ (by omega) ?_ ?_ fun T1 t0 => ?_
    · simp only [go_sem, ↓reduceIte, Nat.reduceEqDiff]
    · simp only [go_sem, ↓reduceIte]; rfl
    simp only [go_sem, ↓reduceIte, Nat.reduceEqDiff, t0]
    refine GoS.call ?_
    simp only [go_sem, ↓reduceIte, Nat.reduceEqDiff, evs]
    refine settle_does (by omega) hx0 (GoW.sound ?_)
    have x0 : opExtract (.tup [lstE 1 encI (settleM l).1, iv (settleM l).2]) 0 = some (lstE 1 encI (settleM l).1) := rfl
    have x1 : opExtract (.tup [lstE 1 encI (settleM l).1, iv (settleM l).2]) 1 = some (iv (settleM l).2) := rfl
    simp only [go_sem, ↓reduceIte, Nat.reduceEqDiff, t0, x0, x1]
    refine GoS.call ?_
    simp only [go_sem, ↓reduceIte, Nat.reduceEqDiff, evs]
    refine rset_does (by omega) hx (GoW.sound ?_)
    have st : opStore (.ptr H.nx 0) (.agg [lstE 1 encI (settleM l).1, iv (settleM l).2]) 2 (lay [.nilsl, iv 0] H) = some (.undef, (lay [.nilsl, iv 0] H).put H.nx (.cells [lstE 1 encI (settleM l).1, iv (settleM l).2] .own)) := by
      have h1 : (lay [.nilsl, iv 0] H).store H.nx 0 [lstE 1 encI (settleM l).1, iv (settleM l).2] = some ((lay [.nilsl, iv 0] H).put H.nx (.cells [lstE 1 encI (settleM l).1, iv (settleM l).2] .own)) := store_eq (get_push_same ..) rfl
      have c : cellsOf (.agg [lstE 1 encI (settleM l).1, iv (settleM l).2]) = some [lstE 1 encI (settleM l).1, iv (settleM l).2] := rfl
      have ac : allCells [lstE 1 encI (settleM l).1, iv (settleM l).2] = true := rfl
      simp only [opStore, asP, c, storeCs, ac, h1]; rfl
    generalize hH2 : (lay [.nilsl, iv 0] H).put H.nx (.cells [lstE 1 encI (settleM l).1, iv (settleM l).2] .own) = H2 at st
    have g2 : H2.get H.nx = some (.cells [lstE 1 encI (settleM l).1, iv (settleM l).2] .own) := by rw [← hH2]; exact get_put_same ..
    have keep : ∀ i, i < H.nx → H2.get i = H.get i := fun i hi => by rw [← hH2, get_put_ne _ _ _ _ (by omega)]; exact push_get_old hi
    simp only [go_sem, ↓reduceIte, Nat.reduceEqDiff, t0, st]
    refine GoS.call ?_
    simp only [go_sem, ↓reduceIte, Nat.reduceEqDiff, evs]
    refine sanity_does (GoW.sound ?_)
    simp only [go_sem, ↓reduceIte, Nat.reduceEqDiff, t0]
    refine GoS.call ?_
    simp only [go_sem, ↓reduceIte, Nat.reduceEqDiff, evs]
    refine pick_does (by omega) hx0 (GoW.sound ?_)
    simp only [go_sem, ↓reduceIte, Nat.reduceEqDiff, t0]
    refine GoS.call ?_
    simp only [go_sem, ↓reduceIte, Nat.reduceEqDiff, evs]
    refine rpick_does (by omega) hx (GoW.sound ?_)
    simp only [go_sem, ↓reduceIte, Nat.reduceEqDiff]
    refine GoS.call ?_
    simp only [go_sem, ↓reduceIte, Nat.reduceEqDiff, evs]
    refine same_does (by omega) (by omega) (GoW.sound ?_)
    have f0 : opFaddr 0 (.ptr H.nx 0) = some (.ptr H.nx 0) := rfl
    have f1 : opFaddr 1 (.ptr H.nx 0) = some (.ptr H.nx 1) := rfl
    have l0 : opLoad (.ptr H.nx 0) false 1 H2 = some (lstE 1 encI (settleM l).1, H2) := load_arr g2 rfl
    have l1 : opLoad (.ptr H.nx 1) false 1 H2 = some (iv (settleM l).2, H2) := load_arr g2 rfl
    simp only [go_sem, ↓reduceIte, Nat.reduceEqDiff, decide_true, f0, l0]
    refine GoS.call ?_
    simp only [go_sem, ↓reduceIte, Nat.reduceEqDiff, evs]
    refine same_does (by omega) (by omega) (GoW.sound ?_)
    simp only [go_sem, ↓reduceIte, Nat.reduceEqDiff, decide_true, f1, l1]
    exact Fin.reset hf keep (.pure _ rfl) hR
end Go.AM.T
