/- sanity: it returns true, wherever it starts. -/
import Derived.Test.YtgdceghclckfhaaGreatA02
import Derived.Test.YtgdceghclckfhaaGreatA04
import Derived.Test.YtgdceghclckfhaaGreatA06
import Derived.Test.YtgdceghclckfhaaGreatA05
set_option linter.unusedVariables false
set_option linter.unusedSimpArgs false
namespace Go.AM.T
open Go Go.AM
theorem closed7 {n : Nat} (h : isTrue ((runR tbl n).call 7 [] AHeap.empty) = true) {H : AHeap} {R : AV → AHeap → Prop} (hp : R (.bool true) H) : CallV tbl 7 [] H R :=
  closed_call (fun _ _ e => tokC e) h hp
theorem sane_ex : ∃ n, isTrue ((runR tbl n).call 7 [] AHeap.empty) = true := ⟨1000000, sane⟩
theorem sanity_does {H : AHeap} {R : AV → AHeap → Prop} (h : R (.bool true) H) : CallV tbl 7 [] H R := by
  obtain ⟨n, hs⟩ := sane_ex
  exact closed7 hs h
end Go.AM.T
/- MergeMovesLittle, in the abstract machine: it returns true. -/
namespace Go.AM.T
open Go Go.AM

/-- the law's rounds, in plain Lean -/
def runM : Nat → Nat → List Int → Int → Bool
  | 0, _, _, _ => true
  | d + 1, i, l, m =>
    let s := settleM (l ++ [1])
    decide (0 ≤ s.2) && decide (s.2 ≤ 100000) && decide (m + s.2 ≤ 7 * (i : Int)) && Nat.ble s.1.length (12 + i / 1025) && s.1.all (fun x => decide (0 ≤ x) && decide (x ≤ 4096)) && runM d (i + 1) s.1 (m + s.2)
theorem runM_ok : runM 400 1 [] 0 = true := by decide +kernel

theorem app0 {H : AHeap} {v : AV} {l : List Int} (hv : (v = .nilsl ∧ l = []) ∨ v = lstE 1 encI l) (hl : l.length ≤ 1000) :
    ∃ v' H' j, appendOp 1 8 (.sl H.nx 0 0 0 1 true) v (lay [] H) = some (v', H') ∧ Spr H' v' j l ∧ H.nx ≤ j ∧ j < H'.nx ∧ ∀ i, i < H.nx → H'.get i = H.get i := by
  by_cases hnil : l = []
  · subst hnil
    refine ⟨.sl H.nx 0 0 0 1 true, lay [] H, H.nx, ?_, ⟨[], true, rfl, get_push_same .., rfl⟩, Nat.le_refl _, by simp [lay], fun i hi => get_push_ne _ _ _ (by omega)⟩
    rcases hv with ⟨rfl, _⟩ | rfl <;> rfl
  · rcases hv with ⟨_, h⟩ | rfl
    · exact absurd h hnil
    have hpos : 0 < l.length := List.length_pos_iff.2 hnil
    refine ⟨.sl (H.nx + 1) 0 l.length l.length 1 false, (lay [] H).push (.cells (l.flatMap encI) .own), H.nx + 1, ?_, ⟨[], false, by simp, by rw [List.append_nil]; exact get_push_same (lay [] H) _, rfl⟩, by omega, by simp [lay], fun i hi => ?_⟩
    · have b3 : Nat.ble l.length 0 = false := by
        cases e : Nat.ble l.length 0 with
        | false => rfl
        | true => have := Nat.le_of_ble_eq_true e; omega
      have b4 : Nat.ble ((l.length + 1) * 8) most = true := Nat.ble_eq_true_of_le (by unfold most; omega)
      have hlen : lenOf (lstE 1 encI l) = some l.length := rfl
      have hg : (lay [] H).get H.nx = some (.cells [] .own) := get_push_same ..
      have hr : rangeOf 0 (0 * 1) ([] : List AV) = some [] := by simp [rangeOf, dropN, takeN]
      have b1 : Nat.ble 1 1 = true := rfl
      have b2 : Nat.ble 1 8 = true := rfl
      simp only [appendOp, hlen, lstE_cells (enc := encI) lenI, allCells_flat (enc := encI) (fun _ => rfl), b1, b2, Bool.and_self, if_true, appTo, Nat.beq_refl, Nat.zero_add, b3, Bool.false_eq_true, if_false, hg, appOut, hr, appNew, b4, List.nil_append]
      rfl
    · rw [get_push_ne _ _ _ (by simp [lay]; omega)]; exact get_push_ne _ _ _ (by omega)

theorem moves_loop {k : List KI} (hn : noD k = true) {Q : AExit → Fr → AHeap → Prop} {H0 : AHeap} {n : Int} {N : Nat} (hN : N ≤ 400) (hrem : bin .rem (iv n) (iv 401) = some (iv N)) (hn0 : InR n)
    (hk : ∀ T' H', (∀ i, i < H0.nx → H'.get i = H0.get i) → GoW tbl Q k (.exit 0) T' H') :
    ∀ (d i : Nat) (l : List Int) (m : Int) (v : AV) (T : Fr) (H : AHeap), runM d i l m = true → i + d = 401 → 1 ≤ i → (v = .nilsl ∧ l = []) ∨ v = lstE 1 encI l → l.length ≤ 900 → (∀ x, x ∈ l → 0 ≤ x ∧ x ≤ 4096) → 0 ≤ m → m ≤ 7 * (i : Int) →
      H0.nx ≤ H.nx → (∀ i, i < H0.nx → H.get i = H0.get i) → gN T 0 = .int .u16 n → gN T 3 = v → gN T 4 = iv m → gN T 5 = iv i → GoS tbl (.code (.loop kc_law33_MergeMovesLittle_l0) :: k) .normal T H Q := by
  intro d
  induction d with
  | zero =>
    intro i l m v T H hr hi h1 hv hl hx hm hm7 nx keep t0 t3 t4 t5
    refine GoS.loopD (a' := c_law33_MergeMovesLittle_l0) rfl (GoW.sound ?_)
    have cv : opConvI .i64 (.int .u16 n) = some (iv n) := convI_in hn0
    simp (disch := (first | omega | (unfold InR; omega))) only [c_law33_MergeMovesLittle_l0, go_sem, ↓reduceIte, Nat.reduceEqDiff, t0, t5, cv, hrem, dT, dF, Bool.false_eq_true]
    exact hk _ _ keep
  | succ d ih =>
    intro i l m v T H hr hi h1 hv hl hx hm hm7 nx keep t0 t3 t4 t5
    refine GoS.loopD (a' := c_law33_MergeMovesLittle_l0) rfl (GoW.sound ?_)
    have cv : opConvI .i64 (.int .u16 n) = some (iv n) := convI_in hn0
    by_cases hiN : N < i
    · simp (disch := (first | omega | (unfold InR; omega))) only [c_law33_MergeMovesLittle_l0, go_sem, ↓reduceIte, Nat.reduceEqDiff, t0, t5, cv, hrem, dT, dF, Bool.false_eq_true]
      exact hk _ _ keep
    · simp only [runM, Bool.and_eq_true, decide_eq_true_eq] at hr
      obtain ⟨⟨⟨⟨⟨r1, r2⟩, r3⟩, r4⟩, r5⟩, r6⟩ := hr
      have r4 := Nat.le_of_ble_eq_true r4
      have r5 : ∀ x, x ∈ (settleM (l ++ [1])).1 → 0 ≤ x ∧ x ≤ 4096 := fun x hx => by
        have := List.all_eq_true.1 r5 x hx
        simpa using this
      have e1 : opBslice 1 0 [] [] H = some (.sl H.nx 0 0 0 1 true, lay [] H) := rfl
      obtain ⟨v1, H1, j1, a1, a2, a3, a4, a5⟩ := app0 (H := H) hv (by omega)
      have e2 : opBslice 1 1 [iv 0] [(0, 1, iv 1)] H1 = some (.sl H1.nx 0 1 1 1 true, lay [iv 1] H1) := rfl
      have a2' : Spr (lay [iv 1] H1) v1 j1 l := by
        obtain ⟨post, ex, w1, w2, w3⟩ := a2
        exact ⟨post, ex, w1, (get_push_ne _ _ _ (by omega)).trans w2, w3⟩
      obtain ⟨v2, H2, j2, b1, b2, b3, b4, b5, b6⟩ := spr_append (x := 1) (k := H1.nx) a2' (by simp [lay]; omega) (by omega) (get_push_same ..)
      have nx1 : (lay [iv 1] H1).nx = H1.nx + 1 := rfl
      have keep2 : ∀ i, i < H0.nx → H2.get i = H0.get i := fun q hq => by
        rw [b6 q (by omega) (by omega)]
        exact (get_push_ne _ _ _ (by omega)).trans ((a5 q (by omega)).trans (keep q hq))
      simp (disch := (first | omega | (unfold InR; omega))) only [c_law33_MergeMovesLittle_l0, go_sem, ↓reduceIte, Nat.reduceEqDiff, Nat.reduceAdd, t0, t3, t4, t5, cv, hrem, dT, dF, Bool.false_eq_true, e1, a1, e2, b1]
      obtain ⟨post, ex, w1, w2, w3⟩ := b2
      have hl1 : (l ++ [1]).length = l.length + 1 := by simp
      have hflen := flat_len (enc := encI) lenI (l ++ [1])
      subst w1
      refine GoS.freeze (i := j2) (by simp only [noD]) w2 (fz1_set (q := 20) (v := lstE 1 encI (l ++ [1])) ?_) ?_
      · simp only [go_sem, ↓reduceIte, Nat.reduceEqDiff]
        exact .sl 0 _ _ 1 ex _ (rangeOf_iff.2 ⟨by have : ((l ++ [1]).flatMap encI ++ post).length = ((l ++ [1]).flatMap encI).length + post.length := List.length_append; omega, by rw [List.drop_zero, List.take_append_of_le_length (by omega), List.take_of_length_le (by omega)]⟩) (by omega)
      refine GoS.call ?_
      simp only [go_sem, ↓reduceIte, Nat.reduceEqDiff]
      refine settle_does (by omega) (fun x hx' => ?_) (GoW.sound ?_)
      · rcases List.mem_append.1 hx' with h | h
        · exact hx x h
        · rw [List.mem_singleton] at h; subst h; omega
      have x0 : opExtract (.tup [lstE 1 encI (settleM (l ++ [1])).1, iv (settleM (l ++ [1])).2]) 0 = some (lstE 1 encI (settleM (l ++ [1])).1) := rfl
      have x1 : opExtract (.tup [lstE 1 encI (settleM (l ++ [1])).1, iv (settleM (l ++ [1])).2]) 1 = some (iv (settleM (l ++ [1])).2) := rfl
      generalize settleM (l ++ [1]) = s at *
      obtain ⟨s1, s2⟩ := s
      simp only at r1 r2 r3 r4 r5 r6 x0 x1
      have q1 : bin .quo (iv i) (iv 1025) = some (iv ((i / 1025 : Nat) : Int)) := by
        rw [show (i : Int) = ((i : Nat) : Int) from rfl]
        have : (i : Int).tdiv 1025 = ((i / 1025 : Nat) : Int) := by rw [Int.tdiv_eq_ediv_of_nonneg (by omega)]; omega
        rw [bin_quo (by omega) (by rw [this]; unfold InR; omega), this]
      simp (disch := (first | omega | (unfold InR; omega))) only [go_sem, ↓reduceIte, Nat.reduceEqDiff, Nat.reduceAdd, t0, t4, t5, x0, x1, q1, dT, dF, Bool.false_eq_true]
      refine ih (i + 1) s1 (m + s2) _ _ _ r6 (by omega) (by omega) (.inr rfl) (by omega) r5 (by omega) (by omega) ?_ ?_ ?_ ?_ ?_ ?_
      · show H0.nx ≤ H2.nx; omega
      · intro q hq
        rw [get_put_ne _ _ _ _ (by omega)]
        exact keep2 q hq
      all_goals simp only [go_sem, ↓reduceIte, Nat.reduceEqDiff, t0, Int.natCast_add, Int.natCast_one]
theorem moves_does {n : Int} (h0 : 0 ≤ n) (h1 : n ≤ 65535) {H : AHeap} {R : AV → AHeap → Prop} (hR : R (.bool true) H) : CallV tbl 5 [.int .u16 n] H R := by
  refine CallV.fresh fun hf => ?_
  refine T.callW rfl ?_
  simp only [c_law33_MergeMovesLittle, a5, go_sem, ↓reduceIte, Nat.reduceEqDiff, Nat.reduceAdd]
  have hr : n.tmod 401 = ((n % 401).toNat : Int) := by rw [Int.tmod_eq_emod_of_nonneg h0]; omega
  refine moves_loop (N := (n % 401).toNat) (n := n) (H0 := H) rfl (by omega) ?_ (by unfold InR; omega) (fun T' H' keep => ?_) 400 1 [] 0 .nilsl _ _ runM_ok (by omega) (by omega) (.inl ⟨rfl, rfl⟩) (by simp) (fun x h => by cases h) (by omega) (by omega) (Nat.le_refl _) (fun _ _ => rfl) ?_ ?_ ?_ ?_
  · rw [← hr]; exact bin_rem (by omega)
  · simp only [go_sem, ↓reduceIte]
    refine GoS.call ?_
    simp only [go_sem, ↓reduceIte, Nat.reduceEqDiff]
    refine sanity_does (GoW.sound ?_)
    simp only [go_sem, ↓reduceIte, Nat.reduceEqDiff]
    exact Fin.reset hf keep (.pure _ rfl) hR
  all_goals simp only [go_sem, ↓reduceIte, Nat.reduceEqDiff]
  all_goals rfl
end Go.AM.T
/- Plain law: what Settle leaves. -/
namespace Go.AM.T
theorem tot_ge {l ps : List Int} (hl : ∀ x, x ∈ l → 1 ≤ x ∧ x ≤ 4096) (hp : ∀ p, p ∈ ps → 0 ≤ p ∧ p < l.length) : (ps.length : Int) ≤ tot l ps := by
  induction ps with
  | nil => exact Int.le_refl _
  | cons p r ih =>
    have h1 := hp p (by simp)
    have h2 := (hl _ (List.mem_of_getElem? (nth_get (l := l) (k := p.toNat) (by omega)))).1
    have h3 := ih fun q hq => hp q (by simp [hq])
    simp only [tot, List.length_cons]
    have h4 : key l p = nth l p.toNat := rfl
    omega
structure SetOk (l : List Int) (m : Int) (s : List Int × Int) : Prop where
  bnd : ∀ x, x ∈ s.1 → 1 ≤ x ∧ x ≤ 4096
  sum : suml s.1 = suml l
  done : (pickM s.1).length = 0
  mv : m ≤ s.2
  mv0 : s.2 = m ↔ (pickM l).length = 0
theorem settleF_ok : ∀ (f : Nat) (l : List Int) (m : Int), l.length ≤ f → (∀ x, x ∈ l → 1 ≤ x ∧ x ≤ 4096) → SetOk l m (settleF f l m) := by
  intro f
  induction f with
  | zero =>
    intro l m hf hl
    have hl0 : l = [] := List.length_eq_zero_iff.1 (by omega)
    have hp : (pickM l).length = 0 := by
      rcases pickM_ok l with e | ok
      · rw [e]; rfl
      · cases hq : pickM l with
        | nil => rfl
        | cons p r => have := ok.mem p (by rw [hq]; simp); rw [hl0] at this; simp at this; omega
    exact ⟨hl, rfl, hp, Int.le_refl _, ⟨fun _ => hp, fun _ => rfl⟩⟩
  | succ f ih =>
    intro l m hf hl
    simp only [settleF]
    split
    · rename_i hp
      exact ⟨hl, rfl, hp, Int.le_refl _, ⟨fun _ => hp, fun _ => rfl⟩⟩
    · rename_i hp
      rcases pickM_ok l with e | ok
      · rw [e] at hp; exact absurd rfl hp
      have oo := outS_ok ok.asc ok.mem
      have ht := tot_ge hl ok.mem
      have hln := ok.len
      have hs := ok.sum
      have hn := next_len hp
      have h := ih (next l (pickM l)) (m + (outS l (pickM l)).2) (by omega) fun x hx => by
        rcases List.mem_append.1 hx with h | h
        · exact hl x (oo.mem x h)
        · rw [List.mem_singleton] at h; subst h; rw [oo.sum]; omega
      have e1 : suml (next l (pickM l)) = suml l := by
        rw [next, suml_append, oo.all, oo.sum]; simp only [suml]; omega
      have h2 := h.mv
      rw [oo.sum] at h2
      refine ⟨h.bnd, h.sum.trans e1, h.done, by rw [oo.sum] at h ⊢; omega, fun e => ?_, fun e => absurd e hp⟩
      rw [oo.sum] at e
      omega
theorem settleM_ok {l : List Int} (hl : ∀ x, x ∈ l → 1 ≤ x ∧ x ≤ 4096) : SetOk l 0 (settleM l) := settleF_ok _ _ _ (Nat.le_refl _) hl
theorem pickF_none {l : List Int} : ∀ (m c : Nat), (pickF l m c).length = 0 → ∀ c', c ≤ c' → c' < c + m → pickC l c' = none := by
  intro m
  induction m with
  | zero => intro c _ c' h1 h2; omega
  | succ m ih =>
    intro c h c' h1 h2
    rw [pickF] at h
    cases hc : pickC l c with
    | some ps => rw [hc] at h; have := (pickC_ok hc).len; simp only at h; omega
    | none =>
      rw [hc] at h
      by_cases e : c' = c
      · rw [e]; exact hc
      · exact ih (c + 1) h c' (by omega) (by omega)
theorem few {l : List Int} (hl : ∀ x, x ∈ l → 1 ≤ x ∧ x ≤ 4096) (h : (pickM l).length = 0) {c : Nat} (hc : c ≤ 3) : (idx l c l.length).length ≤ 3 := by
  have h1 := pickF_none 5 0 h c (by omega) (by omega)
  unfold pickC at h1
  split at h1
  · omega
  · split at h1 <;> first | (cases h1; done) | skip
    rename_i hs
    have key0 : ∀ x, x ∈ four l c → key l x ≤ 1024 := fun x hx => by
      have hm := idx_mem (four_mem hx)
      have hk : cls (key l x) = (c : Int) := hm.2.2
      unfold cls at hk
      repeat' split at hk
      all_goals omega
    have tl : ∀ ps : List Int, (∀ x, x ∈ ps → key l x ≤ 1024) → tot l ps ≤ 1024 * (ps.length : Int) := by
      intro ps
      induction ps with
      | nil => intro _; simp [tot]
      | cons p r ih =>
        intro h
        have h2 := h p (by simp)
        have h3 := ih fun x hx => h x (by simp [hx])
        simp only [tot, List.length_cons]; omega
    have h2 := tl (four l c) key0
    have h3 : (four l c).length ≤ 4 := by unfold four; rw [List.length_take]; omega
    omega
theorem idx_sum (l : List Int) : ∀ k, k ≤ l.length → (∀ x, x ∈ l → 1 ≤ x) → (idx l 0 k).length + (idx l 1 k).length + (idx l 2 k).length + (idx l 3 k).length + (idx l 4 k).length = k ∧ 1025 * ((idx l 4 k).length : Int) ≤ suml (l.take k) := by
  intro k
  induction k with
  | zero => intro _ _; exact ⟨rfl, by simp [idx, suml]⟩
  | succ k ih =>
    intro hk hx
    obtain ⟨h1, h2⟩ := ih (by omega) hx
    have ht : suml (l.take (k + 1)) = suml (l.take k) + nth l k := by
      rw [List.take_add_one, nth_get (by omega), suml_append]; simp [suml]
    have hge := hx _ (List.mem_of_getElem? (nth_get (l := l) (k := k) (by omega)))
    have hc : cls (nth l k) = 0 ∨ cls (nth l k) = 1 ∨ cls (nth l k) = 2 ∨ cls (nth l k) = 3 ∨ (cls (nth l k) = 4 ∧ 1025 ≤ nth l k) := by
      unfold cls
      repeat' split
      all_goals omega
    rw [ht]
    unfold idx
    rcases hc with h | h | h | h | ⟨h, h5⟩ <;> rw [h] <;> simp <;> omega
theorem len_few {l : List Int} (hl : ∀ x, x ∈ l → 1 ≤ x ∧ x ≤ 4096) (h : (pickM l).length = 0) : (l.length : Int) ≤ 12 + suml l / 1025 := by
  obtain ⟨h1, h2⟩ := idx_sum l l.length (Nat.le_refl _) fun x hx => (hl x hx).1
  rw [List.take_length] at h2
  have f0 := few hl h (c := 0) (by omega)
  have f1 := few hl h (c := 1) (by omega)
  have f2 := few hl h (c := 2) (by omega)
  have f3 := few hl h (c := 3) (by omega)
  omega
theorem suml_pos {l : List Int} (hl : ∀ x, x ∈ l → 1 ≤ x) : 0 ≤ suml l := by
  induction l with
  | nil => exact Int.le_refl _
  | cons x l ih => have := hl x (by simp); have := ih fun y hy => hl y (by simp [hy]); simp only [suml]; omega
end Go.AM.T
/- The specification's Counts, Class, Sum, Same. -/
namespace Go.AM.T
open Go Go.AM
def cOk (l : List Int) : Bool := l.all fun x => decide (1 ≤ x) && decide (x ≤ 4096)
theorem cOk_mem {l : List Int} (h : cOk l = true) {x : Int} (hx : x ∈ l) : 1 ≤ x ∧ x ≤ 4096 := by
  have := List.all_eq_true.1 h x hx
  simpa using this
theorem counts_loop {k : List KI} {Q : AExit → Fr → AHeap → Prop} {H : AHeap} {l : List Int} {m : Int} (hl : l.length ≤ 1125899906842624) : ∀ (d i : Nat) (T : Fr), i + d = l.length → gN T 0 = lstE 1 encI l → gN T 1 = iv m → gN T 5 = iv i →
    (∀ T', gN T' 4 = .bool false → cOk (l.drop i) = false → GoW tbl Q k .ret T' H) → (∀ T', gN T' 0 = lstE 1 encI l → gN T' 1 = iv m → cOk (l.drop i) = true → GoW tbl Q k (.exit 0) T' H) → GoS tbl (.code (.loop kc_ref33_Counts_l0) :: k) .normal T H Q := by
  intro d
  induction d with
  | zero =>
    intro i T hi t0 t1 t5 h1 h2
    refine GoS.loopD (a' := c_ref33_Counts_l0) rfl (GoW.sound ?_)
    simp (disch := (first | omega | (unfold InR; omega))) only [c_ref33_Counts_l0, go_sem, ↓reduceIte, Nat.reduceEqDiff, t0, t1, t5, dT, dF, Bool.false_eq_true]
    refine h2 _ ?_ ?_ (by rw [List.drop_eq_nil_of_le (by omega)]; rfl)
    all_goals simp only [go_sem, ↓reduceIte, Nat.reduceEqDiff, t0, t1]
  | succ d ih =>
    intro i T hi t0 t1 t5 h1 h2
    refine GoS.loopD (a' := c_ref33_Counts_l0) rfl (GoW.sound ?_)
    have hd := drop_nth (l := l) (k := i) (by omega)
    have hc : cOk (l.drop i) = ((decide (1 ≤ nth l i) && decide (nth l i ≤ 4096)) && cOk (l.drop (i + 1))) := by rw [hd]; rfl
    have d0 : decide ((i : Int) < (l.length : Int)) = true := dT (by omega)
    by_cases a1 : nth l i < 1
    · have d1 := dT a1
      simp (disch := (first | omega | (unfold InR; omega))) only [c_ref33_Counts_l0, go_sem, ↓reduceIte, Nat.reduceEqDiff, t0, t1, t5, d0, d1, Bool.false_eq_true, reduceCtorEq]
      refine h1 _ (by simp only [go_sem, ↓reduceIte, Nat.reduceEqDiff]) ?_
      rw [hc, dF (by omega : ¬ 1 ≤ nth l i)]; rfl
    · have d1 := dF a1
      by_cases a2 : 4096 < nth l i
      · have d2 := dT a2
        simp (disch := (first | omega | (unfold InR; omega))) only [c_ref33_Counts_l0, go_sem, ↓reduceIte, Nat.reduceEqDiff, t0, t1, t5, d0, d1, d2, Bool.false_eq_true, reduceCtorEq]
        refine h1 _ (by simp only [go_sem, ↓reduceIte, Nat.reduceEqDiff]) ?_
        rw [hc, dF (by omega : ¬ nth l i ≤ 4096), Bool.and_false]; rfl
      · have d2 := dF a2
        have hc' : cOk (l.drop i) = cOk (l.drop (i + 1)) := by rw [hc, dT (by omega : 1 ≤ nth l i), dT (by omega : nth l i ≤ 4096)]; rfl
        simp (disch := (first | omega | (unfold InR; omega))) only [c_ref33_Counts_l0, go_sem, ↓reduceIte, Nat.reduceEqDiff, t0, t1, t5, d0, d1, d2, Bool.false_eq_true, reduceCtorEq]
        refine ih (i + 1) _ (by omega) ?_ ?_ ?_ (fun T' g1 g2 => h1 T' g1 (hc'.trans g2)) fun T' g0 g1 g2 => h2 T' g0 g1 (hc'.trans g2)
        all_goals simp only [go_sem, ↓reduceIte, Nat.reduceEqDiff, t0, t1, Int.natCast_add, Int.natCast_one]
theorem counts_does {l : List Int} {m : Int} (hl : l.length ≤ 1125899906842624) {H : AHeap} {R : AV → AHeap → Prop} (h : R (.bool (cOk l && decide ((l.length : Int) ≤ m))) H) : CallV tbl f_ref33_Counts [lstE 1 encI l, iv m] H R := by
  refine T.callW rfl ?_
  simp only [c_ref33_Counts, a6, go_sem, ↓reduceIte, Nat.reduceEqDiff]
  refine counts_loop (m := m) hl l.length 0 _ (by omega) ?_ ?_ ?_ (fun T' h1 h2 => ?_) fun T' h0 h1 h2 => ?_
  · simp only [go_sem, ↓reduceIte, Nat.reduceEqDiff]
  · simp only [go_sem, ↓reduceIte, Nat.reduceEqDiff]
  · simp only [go_sem, ↓reduceIte, Nat.reduceEqDiff]; rfl
  · rw [List.drop_zero] at h2
    simp only [go_sem, h1]
    exact .same (by rw [h2] at h; exact h)
  · rw [List.drop_zero] at h2
    simp only [go_sem, ↓reduceIte, Nat.reduceEqDiff, h0, h1]
    exact .same (by rw [h2, Bool.true_and] at h; exact h)

theorem class_step {n : Int} {H : AHeap} (c m : Int) (hc : 0 ≤ c ∧ c ≤ 4) (hm : 16 ≤ m ∧ m ≤ 4096) {c2 m2 : Int} (ec : c2 = c + 1) (em : m2 = 4 * m) {k : List KI} {Q : AExit → Fr → AHeap → Prop} {T : Fr} (t0 : gN T 0 = iv n) (t3 : gN T 3 = iv c) (t4 : gN T 4 = iv m)
    (h1 : n ≤ m → ∀ T', gN T' 3 = iv c → GoW tbl Q k (.exit 0) T' H) (h2 : m < n → ∀ T', gN T' 0 = iv n → gN T' 3 = iv c2 → gN T' 4 = iv m2 → GoS tbl (.code (.loop kc_ref33_Class_l0) :: k) .normal T' H Q) :
    GoS tbl (.code (.loop kc_ref33_Class_l0) :: k) .normal T H Q := by
  refine GoS.loopD (a' := c_ref33_Class_l0) rfl (GoW.sound ?_)
  by_cases a : m < n
  · have d := dT a
    simp (disch := (first | omega | (unfold InR; omega))) only [c_ref33_Class_l0, go_sem, ↓reduceIte, Nat.reduceEqDiff, t0, t3, t4, d, Bool.false_eq_true, reduceCtorEq]
    refine h2 a _ ?_ ?_ ?_
    all_goals simp only [go_sem, ↓reduceIte, Nat.reduceEqDiff, t0, ec, em]
  · have d := dF a
    simp (disch := (first | omega | (unfold InR; omega))) only [c_ref33_Class_l0, go_sem, ↓reduceIte, Nat.reduceEqDiff, t0, t3, t4, d, Bool.false_eq_true, reduceCtorEq]
    refine h1 (by omega) _ ?_
    simp only [go_sem, ↓reduceIte, Nat.reduceEqDiff, t3]
theorem rclass_does {n : Int} (hn : n ≤ 4096) {H : AHeap} {R : AV → AHeap → Prop} (hr : R (iv (cls n)) H) : CallV tbl f_ref33_Class [iv n] H R := by
  refine T.callW rfl ?_
  simp only [c_ref33_Class, a9, go_sem, ↓reduceIte, Nat.reduceEqDiff]
  refine class_step (n := n) 0 16 (by omega) (by omega) (c2 := 1) (m2 := 64) rfl rfl ?_ ?_ ?_ (fun h T' g => ?_) fun h1 T1 a1 b1 c1 => class_step (n := n) 1 64 (by omega) (by omega) (c2 := 2) (m2 := 256) rfl rfl a1 b1 c1 (fun h T' g => ?_) fun h2 T2 a2 b2 c2 => class_step (n := n) 2 256 (by omega) (by omega) (c2 := 3) (m2 := 1024) rfl rfl a2 b2 c2 (fun h T' g => ?_)
    fun h3 T3 a3 b3 c3 => class_step (n := n) 3 1024 (by omega) (by omega) (c2 := 4) (m2 := 4096) rfl rfl a3 b3 c3 (fun h T' g => ?_) fun h4 T4 a4 b4 c4 => class_step (n := n) 4 4096 (by omega) (by omega) (c2 := 5) (m2 := 16384) rfl rfl a4 b4 c4 (fun h T' g => ?_) fun h5 => by omega
  · simp only [go_sem, ↓reduceIte, Nat.reduceEqDiff]
  · simp only [go_sem, ↓reduceIte, Nat.reduceEqDiff]
  · simp only [go_sem, ↓reduceIte, Nat.reduceEqDiff]
  · rw [cls_is (c := 0) (by omega)] at hr
    simp only [go_sem, ↓reduceIte, Nat.reduceEqDiff, g]
    exact .same hr
  · rw [cls_is (c := 1) (by omega)] at hr
    simp only [go_sem, ↓reduceIte, Nat.reduceEqDiff, g]
    exact .same hr
  · rw [cls_is (c := 2) (by omega)] at hr
    simp only [go_sem, ↓reduceIte, Nat.reduceEqDiff, g]
    exact .same hr
  · rw [cls_is (c := 3) (by omega)] at hr
    simp only [go_sem, ↓reduceIte, Nat.reduceEqDiff, g]
    exact .same hr
  · rw [cls_is (c := 4) (by omega)] at hr
    simp only [go_sem, ↓reduceIte, Nat.reduceEqDiff, g]
    exact .same hr

theorem same_loop {k : List KI} {Q : AExit → Fr → AHeap → Prop} {H : AHeap} {l m : List Int} (hl : l.length ≤ 1000000) (hlm : l.length = m.length) : ∀ (d i : Nat) (T : Fr), i + d = l.length → gN T 0 = lstE 1 encI l → gN T 1 = lstE 1 encI m → gN T 5 = iv i →
    (∀ T', gN T' 4 = .bool false → l.drop i ≠ m.drop i → GoW tbl Q k .ret T' H) → (∀ T', l.drop i = m.drop i → GoW tbl Q k (.exit 0) T' H) → GoS tbl (.code (.loop kc_ref33_Same_l0) :: k) .normal T H Q := by
  intro d
  induction d with
  | zero =>
    intro i T hi t0 t1 t5 h1 h2
    refine GoS.loopD (a' := c_ref33_Same_l0) rfl (GoW.sound ?_)
    simp (disch := (first | omega | (unfold InR; omega))) only [c_ref33_Same_l0, go_sem, ↓reduceIte, Nat.reduceEqDiff, t0, t1, t5, dT, dF, Bool.false_eq_true]
    exact h2 _ (by rw [List.drop_eq_nil_of_le (by omega), List.drop_eq_nil_of_le (by omega)])
  | succ d ih =>
    intro i T hi t0 t1 t5 h1 h2
    refine GoS.loopD (a' := c_ref33_Same_l0) rfl (GoW.sound ?_)
    have hd := drop_nth (l := l) (k := i) (by omega)
    have he := drop_nth (l := m) (k := i) (by omega)
    by_cases a : nth l i = nth m i
    · simp (disch := (first | omega | (unfold InR; omega))) only [c_ref33_Same_l0, go_sem, ↓reduceIte, Nat.reduceEqDiff, t0, t1, t5, a, ne_eq, not_true_eq_false, true_and, dT, dF, Bool.false_eq_true]
      have hc : (l.drop i = m.drop i) = (l.drop (i + 1) = m.drop (i + 1)) := by rw [hd, he, a]; simp
      refine ih (i + 1) _ (by omega) ?_ ?_ ?_ (fun T' g1 g2 => h1 T' g1 (by rw [ne_eq, hc]; exact g2)) fun T' g => h2 T' (by rw [hc]; exact g)
      all_goals simp only [go_sem, ↓reduceIte, Nat.reduceEqDiff, t0, t1, Int.natCast_add, Int.natCast_one]
    · simp (disch := (first | omega | (unfold InR; omega))) only [c_ref33_Same_l0, go_sem, ↓reduceIte, Nat.reduceEqDiff, t0, t1, t5, a, ne_eq, not_false_eq_true, true_and, dT, dF, Bool.false_eq_true]
      exact h1 _ (by simp only [go_sem, ↓reduceIte, Nat.reduceEqDiff]) (by rw [hd, he]; simp [a])
theorem same_does {l m : List Int} (hl : l.length ≤ 1000000) (hm : m.length ≤ 1000000) {H : AHeap} {R : AV → AHeap → Prop} (h : R (.bool (decide (l = m))) H) : CallV tbl f_ref33_Same [lstE 1 encI l, lstE 1 encI m] H R := by
  refine T.callW rfl ?_
  by_cases a : l.length = m.length
  · simp (disch := (first | omega | (unfold InR; omega))) only [c_ref33_Same, a12, go_sem, ↓reduceIte, Nat.reduceEqDiff, a, ne_eq, not_true_eq_false, dF, Bool.false_eq_true]
    refine same_loop hl a l.length 0 _ (by omega) ?_ ?_ ?_ (fun T' g1 g2 => ?_) fun T' g => ?_
    · simp only [go_sem, ↓reduceIte, Nat.reduceEqDiff]
    · simp only [go_sem, ↓reduceIte, Nat.reduceEqDiff]
    · simp only [go_sem, ↓reduceIte, Nat.reduceEqDiff]; rfl
    · simp only [go_sem, g1]
      exact .same (by rw [dF (by simpa using g2)] at h; exact h)
    · simp only [go_sem, ↓reduceIte, Nat.reduceEqDiff]
      exact .same (by rw [dT (by simpa using g)] at h; exact h)
  · simp (disch := (first | omega | (unfold InR; omega))) only [c_ref33_Same, a12, go_sem, ↓reduceIte, Nat.reduceEqDiff, ne_eq, dT, dF, Bool.false_eq_true]
    exact .same (by rw [dF (fun e => a (by rw [e]))] at h; exact h)
end Go.AM.T
/- The specification's Sum. -/
namespace Go.AM.T
open Go Go.AM
theorem rsum_loop {counts F : List Int} (hc : ∀ x, x ∈ counts → 0 ≤ x ∧ x ≤ 4096) (hF : F.length ≤ 1000) (hm : ∀ x, x ∈ F → 0 ≤ x ∧ x < counts.length) {k : List KI} {Q : AExit → Fr → AHeap → Prop} {H : AHeap} : ∀ (d i : Nat) (a : Int) (T : Fr), i + d = F.length →
    gN T 0 = lstE 1 encI counts → gN T 1 = lstE 1 encI F → gN T 5 = iv a → gN T 6 = iv i → 0 ≤ a → a ≤ 4096 * (i : Int) →
    (∀ T', gN T' 5 = iv (a + tot counts (F.drop i)) → GoW tbl Q k (.exit 0) T' H) → GoS tbl (.code (.loop kc_ref33_Sum_l0) :: k) .normal T H Q := by
  intro d
  induction d with
  | zero =>
    intro i a T hi t0 t1 t5 t6 b0 b1 h
    refine GoS.loopD (a' := c_ref33_Sum_l0) rfl (GoW.sound ?_)
    simp (disch := omega) only [c_ref33_Sum_l0, go_sem, ↓reduceIte, Nat.reduceEqDiff, Nat.reduceAdd, t1, t6, dF, Bool.false_eq_true]
    refine h _ ?_
    rw [List.drop_eq_nil_of_le (by omega)]
    simp only [go_sem, ↓reduceIte, Nat.reduceEqDiff, t5, tot, Int.add_zero]
  | succ d ih =>
    intro i a T hi t0 t1 t5 t6 b0 b1 h
    have hr := hm _ (List.mem_of_getElem? (nth_get (l := F) (k := i) (by omega)))
    have hk := hc _ (List.mem_of_getElem? (nth_get (l := counts) (k := (nth F i).toNat) (by omega)))
    have hd := drop_nth (l := F) (k := i) (by omega)
    have d0 : decide ((i : Int) < (F.length : Int)) = true := dT (by omega)
    refine GoS.loopD (a' := c_ref33_Sum_l0) rfl (GoW.sound ?_)
    simp (disch := (first | omega | (unfold InR; omega))) only [c_ref33_Sum_l0, go_sem, ↓reduceIte, Nat.reduceEqDiff, Nat.reduceAdd, t0, t1, t5, t6, d0]
    refine ih (i + 1) (a + nth counts (nth F i).toNat) _ (by omega) ?_ ?_ ?_ ?_ (by omega) (by omega) fun T' g => h T' ?_
    · simp only [go_sem, ↓reduceIte, Nat.reduceEqDiff, t0]
    · simp only [go_sem, ↓reduceIte, Nat.reduceEqDiff, t1]
    · simp only [go_sem, ↓reduceIte, Nat.reduceEqDiff]
    · simp only [go_sem, ↓reduceIte, Nat.reduceEqDiff, Int.natCast_add, Int.natCast_one]
    · rw [g, hd]
      simp only [tot, key]
      congr 1; omega
theorem rsum_does {counts F : List Int} (hc : ∀ x, x ∈ counts → 0 ≤ x ∧ x ≤ 4096) (hF : F.length ≤ 1000) (hm : ∀ x, x ∈ F → 0 ≤ x ∧ x < counts.length) {H : AHeap} {R : AV → AHeap → Prop} (h : R (iv (tot counts F)) H) : CallV tbl f_ref33_Sum [lstE 1 encI counts, lstE 1 encI F] H R := by
  refine T.callW rfl ?_
  simp only [c_ref33_Sum, a15, go_sem, ↓reduceIte, Nat.reduceEqDiff]
  refine rsum_loop hc hF hm F.length 0 0 _ (by omega) ?_ ?_ ?_ ?_ (by omega) (by omega) (fun T' g => ?_)
  · simp only [go_sem, ↓reduceIte, Nat.reduceEqDiff]
  · simp only [go_sem, ↓reduceIte, Nat.reduceEqDiff]
  · simp only [go_sem, ↓reduceIte, Nat.reduceEqDiff]
  · simp only [go_sem, ↓reduceIte, Nat.reduceEqDiff]; rfl
  · rw [List.drop_zero, Int.zero_add] at g
    simp only [go_sem, ↓reduceIte, Nat.reduceEqDiff, g]
    exact .same h
end Go.AM.T
/- MergeLeavesFew, in the abstract machine: it returns true. -/
namespace Go.AM.T
open Go Go.AM
theorem class_callF {n : Int} (h : n ≤ 4096) {H : AHeap} : CallF tbl f_merge_Class [iv n] H fun r H2 => r = iv (cls n) ∧ H2 = H :=
  CallF.view (P0 := fun r _ => r = iv (cls n)) (P1 := fun r => r = iv (cls n)) (Frzs.pure rfl) (class_does h rfl) fun r H' e => ⟨by rw [e]; rfl, e⟩

/-! loads of a region that draws, out of a frozen list -/
def lOkL (n lo m : Nat) (v : AV) (H : AHeap) : Bool :=
  match v with
  | .fp off cs => Nat.ble n lo && (rangeOf off m cs).isSome
  | .ptr i off => (H.load i off m).isSome
  | _ => true
def rcdL (lo hi m : Nat) (v : AV) (H : AHeap) : List Rcd :=
  match v with
  | .ptr i off =>
    (match H.load i off m with
     | some vs => [.cells i off m vs lo hi]
     | none => [])
  | _ => []
theorem lOk_g {lo hi n m : Nat} {d : Option (List Bool)} {x : AX} {ag : Bool} {p : List Bool} {c : Bool} {T : Fr} {H : AHeap} :
    lOk lo hi n ⟨d, .load x ag m, some (p, c)⟩ T H = if Nat.beq lo hi then true else (match asW c (Fr.at_ T p) with | some b => if b = c then lOkL n lo m (ev T x) H else true | none => true) := by
  unfold lOk
  cases hb : Nat.beq lo hi with
  | true => rfl
  | false =>
    simp only [Bool.false_eq_true, if_false, wants]
    cases asW c (Fr.at_ T p) with
    | none => rfl
    | some b => cases b <;> cases c <;> rfl
theorem recD_g {lo hi m : Nat} {d : Option (List Bool)} {x : AX} {ag : Bool} {p : List Bool} {c : Bool} {T : Fr} {H : AHeap} :
    recD lo hi ⟨d, .load x ag m, some (p, c)⟩ T H = if Nat.beq lo hi then [] else (match asW c (Fr.at_ T p) with | some b => if b = c then rcdL lo hi m (ev T x) H else [] | none => []) := by
  unfold recD
  cases hb : Nat.beq lo hi with
  | true => rfl
  | false =>
    simp only [Bool.false_eq_true, if_false, rcdOf, wants]
    cases asW c (Fr.at_ T p) with
    | none => rfl
    | some b => cases b <;> cases c <;> rfl
theorem lOkL_fpE {lo : Nat} {l : List Int} {k : Nat} {H : AHeap} (h : k < l.length) : lOkL 0 lo 1 (fpE 1 encI l k) H = true := by
  have := flat_get (es := 1) (enc := encI) (fun _ => rfl) (nth_get h)
  have b : Nat.ble 0 lo = true := by cases lo <;> rfl
  simp only [lOkL, fpE, this, b, Option.isSome_some, Bool.and_self]
theorem rcdL_fpE {lo hi : Nat} {l : List Int} {k : Nat} {H : AHeap} : rcdL lo hi 1 (fpE 1 encI l k) H = [] := rfl
theorem b01 : Nat.beq 0 1 = false := rfl

theorem few_total {l : List Int} (hl : l.length ≤ 1000) (hx : ∀ x, x ∈ l → 1 ≤ x ∧ x ≤ 4096) {k : List KI} {Q : AExit → Fr → AHeap → Prop} {H : AHeap} : ∀ (d i : Nat) (a : Int) (T : Fr), i + d = l.length → gN T 0 = lstE 1 encI l → gN T 3 = iv a → gN T 4 = iv i → 0 ≤ a → a ≤ 4096 * (i : Int) →
    (∀ T', gN T' 0 = lstE 1 encI l → gN T' 3 = iv (a + suml (l.drop i)) → GoW tbl Q k (.exit 0) T' H) → GoS tbl (.code (.loop kc_law33_MergeLeavesFew_l0) :: k) .normal T H Q := by
  intro d
  induction d with
  | zero =>
    intro i a T hi t0 t3 t4 b0 b1 h
    refine GoS.loopD (a' := c_law33_MergeLeavesFew_l0) rfl (GoW.sound ?_)
    simp (disch := omega) only [c_law33_MergeLeavesFew_l0, go_sem, ↓reduceIte, Nat.reduceEqDiff, Nat.reduceAdd, t0, t4, dF, Bool.false_eq_true]
    refine h _ ?_ ?_
    · simp only [go_sem, ↓reduceIte, Nat.reduceEqDiff, t0]
    · rw [List.drop_eq_nil_of_le (by omega)]
      simp only [go_sem, ↓reduceIte, Nat.reduceEqDiff, t3, suml, Int.add_zero]
  | succ d ih =>
    intro i a T hi t0 t3 t4 b0 b1 h
    have hk := hx _ (List.mem_of_getElem? (nth_get (l := l) (k := i) (by omega)))
    have hd := drop_nth (l := l) (k := i) (by omega)
    have d0 : decide ((i : Int) < (l.length : Int)) = true := dT (by omega)
    refine GoS.loopD (a' := c_law33_MergeLeavesFew_l0) rfl (GoW.sound ?_)
    simp (disch := (first | omega | (unfold InR; omega))) only [c_law33_MergeLeavesFew_l0, go_sem, ↓reduceIte, Nat.reduceEqDiff, Nat.reduceAdd, t0, t3, t4, d0]
    refine ih (i + 1) (a + nth l i) _ (by omega) ?_ ?_ ?_ (by omega) (by omega) fun T' g0 g => h T' g0 ?_
    · simp only [go_sem, ↓reduceIte, Nat.reduceEqDiff, t0]
    · simp only [go_sem, ↓reduceIte, Nat.reduceEqDiff]
    · simp only [go_sem, ↓reduceIte, Nat.reduceEqDiff, Int.natCast_add, Int.natCast_one]
    · rw [g, hd]
      simp only [suml]
      congr 1; omega

theorem few_picks {counts F : List Int} (hl : counts.length ≤ 1000) (hx : ∀ x, x ∈ counts → 1 ≤ x ∧ x ≤ 4096) (hF : F.length ≤ 1000) (asc : F.Pairwise (· < ·)) (hm : ∀ x, x ∈ F → 0 ≤ x ∧ x < counts.length) {c : Int} (hc : ∀ p, p ∈ F → cls (nth counts p.toNat) = c)
    {k : List KI} {Q : AExit → Fr → AHeap → Prop} {H : AHeap} {a : Int} : ∀ (d i : Nat) (T : Fr), i + d = F.length → gN T 0 = lstE 1 encI counts → gN T 3 = iv a → gN T 5 = lstE 1 encI F → gN T 6 = iv i →
    (∀ T', gN T' 0 = lstE 1 encI counts → gN T' 3 = iv a → gN T' 5 = lstE 1 encI F → GoW tbl Q k (.exit 2) T' H) → GoS tbl (.code (.loop kc_law33_MergeLeavesFew_l1) :: k) .normal T H Q := by
  intro d
  induction d with
  | zero =>
    intro i T hi t0 t3 t5 t6 h
    refine GoS.loopD (a' := c_law33_MergeLeavesFew_l1) rfl (GoW.sound ?_)
    simp (disch := omega) only [c_law33_MergeLeavesFew_l1, go_sem, ↓reduceIte, Nat.reduceEqDiff, Nat.reduceAdd, t5, t6, dF, Bool.false_eq_true]
    refine h _ ?_ ?_ ?_
    all_goals simp only [go_sem, ↓reduceIte, Nat.reduceEqDiff, t0, t3, t5]
  | succ d ih =>
    intro i T hi t0 t3 t5 t6 h
    have mi : nth F i ∈ F := List.mem_of_getElem? (nth_get (by omega))
    have m0 : nth F 0 ∈ F := List.mem_of_getElem? (nth_get (by omega))
    have r1 := hm _ mi
    have r0 := hm _ m0
    have k1 := hx _ (List.mem_of_getElem? (nth_get (l := counts) (k := (nth F i).toNat) (by omega)))
    have k0 := hx _ (List.mem_of_getElem? (nth_get (l := counts) (k := (nth F 0).toNat) (by omega)))
    have c1 := hc _ mi
    have c0 := hc _ m0
    have d0 : decide ((i : Int) < (F.length : Int)) = true := dT (by omega)
    have d1 : decide (nth F i < 0) = false := dF (by omega)
    have d2 : decide ((counts.length : Int) ≤ nth F i) = false := dF (by omega)
    have z0 : Int.toNat 0 = 0 := rfl
    have tail : ∀ T' : Fr, gN T' 0 = lstE 1 encI counts → gN T' 3 = iv a → gN T' 5 = lstE 1 encI F → gN T' 6 = iv ((i + 1 : Nat) : Int) → GoS tbl (.code (.loop kc_law33_MergeLeavesFew_l1) :: k) .normal T' H Q :=
      fun T' a b c d => ih (i + 1) T' (by omega) a b c d h
    refine GoS.loopD (a' := c_law33_MergeLeavesFew_l1) rfl (GoW.sound ?_)
    by_cases hi0 : i = 0
    · subst hi0
      have d3 : decide ((0 : Int) < ((0 : Nat) : Int)) = false := rfl
      simp (disch := (first | omega | (unfold InR; omega))) only [c_law33_MergeLeavesFew_l1, go_sem, ↓reduceIte, Nat.reduceEqDiff, Nat.reduceAdd, t0, t3, t5, t6, d0, d1, d2, d3, Bool.false_eq_true, reduceCtorEq, true_and]
      refine GoS.callF ?_
      simp only [go_sem, ↓reduceIte, Nat.reduceEqDiff, evs]
      refine (class_callF (by omega)).mono ?_
      rintro v H' ⟨rfl, rfl⟩
      refine GoW.sound ?_
      simp (disch := (first | omega | (unfold InR; omega))) only [go_sem, ↓reduceIte, Nat.reduceEqDiff, Nat.reduceAdd, t0, t3, t5, t6, z0, lOk_g, recD_g, lOkL_fpE, rcdL_fpE, b01, Bool.false_eq_true, reduceCtorEq, true_and]
      refine GoS.callF ?_
      simp only [go_sem, ↓reduceIte, Nat.reduceEqDiff, evs]
      refine (class_callF (by omega)).mono ?_
      rintro v H' ⟨rfl, rfl⟩
      refine GoW.sound ?_
      simp (disch := (first | omega | (unfold InR; omega))) only [go_sem, ↓reduceIte, Nat.reduceEqDiff, Nat.reduceAdd, t0, t3, t5, t6, c0, c1, ne_eq, not_true_eq_false, decide_false, Bool.false_eq_true, reduceCtorEq, true_and]
      refine tail _ ?_ ?_ ?_ ?_
      all_goals simp only [go_sem, ↓reduceIte, Nat.reduceEqDiff, t0, t3, t5, Int.natCast_add, Int.natCast_one]
      rfl
    · have d3 : decide ((0 : Int) < (i : Int)) = true := dT (by omega)
      have d4 : decide (nth F i ≤ nth F ((i : Int) - 1).toNat) = false := by
        have e : ((i : Int) - 1).toNat = i - 1 := by omega
        rw [e]
        have h1 := List.pairwise_iff_getElem.1 asc (i - 1) i (by omega) (by omega) (by omega)
        have g1 := nth_get (l := F) (k := i) (by omega)
        have g2 := nth_get (l := F) (k := i - 1) (by omega)
        rw [List.getElem?_eq_getElem (by omega)] at g1 g2
        have g1 := Option.some.inj g1
        have g2 := Option.some.inj g2
        exact dF (by omega)
      simp (disch := (first | omega | (unfold InR; omega))) only [c_law33_MergeLeavesFew_l1, go_sem, ↓reduceIte, Nat.reduceEqDiff, Nat.reduceAdd, t0, t3, t5, t6, d0, d1, d2, d3, d4, Bool.false_eq_true, reduceCtorEq, true_and]
      refine GoS.callF ?_
      simp only [go_sem, ↓reduceIte, Nat.reduceEqDiff, evs]
      refine (class_callF (by omega)).mono ?_
      rintro v H' ⟨rfl, rfl⟩
      refine GoW.sound ?_
      simp (disch := (first | omega | (unfold InR; omega))) only [go_sem, ↓reduceIte, Nat.reduceEqDiff, Nat.reduceAdd, t0, t3, t5, t6, z0, lOk_g, recD_g, lOkL_fpE, rcdL_fpE, b01, Bool.false_eq_true, reduceCtorEq, true_and]
      refine GoS.callF ?_
      simp only [go_sem, ↓reduceIte, Nat.reduceEqDiff, evs]
      refine (class_callF (by omega)).mono ?_
      rintro v H' ⟨rfl, rfl⟩
      refine GoW.sound ?_
      simp (disch := (first | omega | (unfold InR; omega))) only [go_sem, ↓reduceIte, Nat.reduceEqDiff, Nat.reduceAdd, t0, t3, t5, t6, c0, c1, ne_eq, not_true_eq_false, decide_false, Bool.false_eq_true, reduceCtorEq, true_and]
      refine tail _ ?_ ?_ ?_ ?_
      all_goals simp only [go_sem, ↓reduceIte, Nat.reduceEqDiff, t0, t3, t5, Int.natCast_add, Int.natCast_one]

def arrI (L : List Int) (i : Nat) : List AV := [iv (idx L 0 i).length, iv (idx L 1 i).length, iv (idx L 2 i).length, iv (idx L 3 i).length, iv (idx L 4 i).length]
theorem arrI_get (L : List Int) (i : Nat) {c : Nat} (h : c < 5) : (arrI L i)[c]? = some (iv (idx L c i).length) := by
  rcases c with _ | _ | _ | _ | _ | c <;> first | rfl | omega
theorem arrI_succ {L : List Int} {i c : Nat} (h : c < 5) (hc : cls (nth L i) = (c : Int)) : (arrI L i).set c (iv ((idx L c i).length + 1)) = arrI L (i + 1) := by
  rcases c with _ | _ | _ | _ | _ | c <;> first | omega | (simp [arrI, idx, hc])
theorem few_tally {L : List Int} {b : Nat} (hl : L.length ≤ 1000) (hx : ∀ x, x ∈ L → 1 ≤ x ∧ x ≤ 4096) {k : List KI} {Q : AExit → Fr → AHeap → Prop} : ∀ (d i : Nat) (a : Int) (T : Fr) (H : AHeap), i + d = L.length → gN T 7 = lstE 1 encI L → gN T 9 = iv a → gN T 10 = .ptr b 0 → gN T 11 = iv i →
    H.get b = some (.cells (arrI L i) .own) → 0 ≤ a → a ≤ 4096 * (i : Int) →
    (∀ T' H', gN T' 9 = iv (a + suml (L.drop i)) → (∀ s, s ≤ 8 ∨ s = 10 → gN T' s = gN T s) → H'.get b = some (.cells (arrI L L.length) .own) → (∀ j, j ≠ b → H'.get j = H.get j) → GoW tbl Q k (.exit 4) T' H') → GoS tbl (.code (.loop kc_law33_MergeLeavesFew_l2) :: k) .normal T H Q := by
  intro d
  induction d with
  | zero =>
    intro i a T H hi t7 t9 t10 t11 hg b0 b1 h
    refine GoS.loopD (a' := c_law33_MergeLeavesFew_l2) rfl (GoW.sound ?_)
    simp (disch := omega) only [c_law33_MergeLeavesFew_l2, go_sem, ↓reduceIte, Nat.reduceEqDiff, Nat.reduceAdd, t7, t11, dF, Bool.false_eq_true]
    refine h _ _ ?_ (fun s hs => ?_) ?_ fun _ _ => rfl
    · rw [List.drop_eq_nil_of_le (by omega)]
      simp only [go_sem, ↓reduceIte, Nat.reduceEqDiff, t9, suml, Int.add_zero]
    · simp (disch := omega) only [go_sem, if_neg]
    · rw [show L.length = i by omega]; exact hg
  | succ d ih =>
    intro i a T H hi t7 t9 t10 t11 hg b0 b1 h
    have hk := hx _ (List.mem_of_getElem? (nth_get (l := L) (k := i) (by omega)))
    have hd := drop_nth (l := L) (k := i) (by omega)
    have d0 : decide ((i : Int) < (L.length : Int)) = true := dT (by omega)
    have d1 : decide (nth L i < 1) = false := dF (by omega)
    have d2 : decide (4096 < nth L i) = false := dF (by omega)
    obtain ⟨c, hc5, hc⟩ := cls_nat (nth L i)
    refine GoS.loopD (a' := c_law33_MergeLeavesFew_l2) rfl (GoW.sound ?_)
    simp (disch := (first | omega | (unfold InR; omega))) only [c_law33_MergeLeavesFew_l2, go_sem, ↓reduceIte, Nat.reduceEqDiff, Nat.reduceAdd, t7, t9, t10, t11, d0, d1, d2, Bool.false_eq_true, reduceCtorEq]
    refine GoS.callF ?_
    simp only [go_sem, ↓reduceIte, Nat.reduceEqDiff, evs]
    refine (class_callF (by omega)).mono ?_
    rintro v H' ⟨rfl, rfl⟩
    refine GoW.sound ?_
    rw [hc]
    have d3 : decide ((c : Int) < 0) = false := dF (by omega)
    have d4 : decide (4 < (c : Int)) = false := dF (by omega)
    have hil := idx_len L c i
    have e1 := idx_arr (n := 5) (b := b) (x := (c : Int)) rfl hc5
    have e2 := load_arr hg (arrI_get L i hc5)
    have e3 := store_arr (v := iv ((idx L c i).length + 1)) hg (c := c) (by simp only [arrI, List.length_cons, List.length_nil]; omega) rfl rfl
    rw [arrI_succ hc5 hc] at e3
    simp (disch := (first | omega | (unfold InR; omega))) only [go_sem, ↓reduceIte, Nat.reduceEqDiff, Nat.reduceAdd, t7, t9, t10, t11, d3, d4, e1, e2, e3, Bool.false_eq_true, reduceCtorEq]
    refine ih (i + 1) (a + nth L i) _ _ (by omega) ?_ ?_ ?_ ?_ (get_put_same ..) (by omega) (by omega) fun T' H2 g1 g2 g3 g4 => h T' H2 ?_ (fun s hs => (g2 s hs).trans ?_) g3 fun j hj => (g4 j hj).trans (get_put_ne _ _ _ _ (Ne.symm hj))
    · simp only [go_sem, ↓reduceIte, Nat.reduceEqDiff, t7]
    · simp only [go_sem, ↓reduceIte, Nat.reduceEqDiff]
    · simp only [go_sem, ↓reduceIte, Nat.reduceEqDiff, t10]
    · simp only [go_sem, ↓reduceIte, Nat.reduceEqDiff, Int.natCast_add, Int.natCast_one]
    · rw [g1, hd]
      simp only [suml]
      congr 1; omega
    · simp (disch := omega) only [go_sem, if_neg]
theorem few_check {L : List Int} {b : Nat} {H : AHeap} (hg : H.get b = some (.cells (arrI L L.length) .own)) (hf : ∀ c, c ≤ 3 → (idx L c L.length).length ≤ 3) {k : List KI} {Q : AExit → Fr → AHeap → Prop} : ∀ (d i : Nat) (T : Fr), i + d = 4 → gN T 10 = .ptr b 0 → gN T 13 = iv i →
    (∀ T', (∀ s, s ≤ 9 → gN T' s = gN T s) → GoW tbl Q k (.exit 6) T' H) → GoS tbl (.code (.loop kc_law33_MergeLeavesFew_l3) :: k) .normal T H Q := by
  intro d
  induction d with
  | zero =>
    intro i T hi t10 t13 h
    have d0 : decide ((i : Int) < 4) = false := dF (by omega)
    refine GoS.loopD (a' := c_law33_MergeLeavesFew_l3) rfl (GoW.sound ?_)
    simp (disch := omega) only [c_law33_MergeLeavesFew_l3, go_sem, ↓reduceIte, Nat.reduceEqDiff, Nat.reduceAdd, t13, d0, Bool.false_eq_true]
    refine h _ fun s hs => ?_
    simp (disch := omega) only [go_sem, if_neg]
  | succ d ih =>
    intro i T hi t10 t13 h
    have d0 : decide ((i : Int) < 4) = true := dT (by omega)
    have e1 := idx_arr (n := 5) (b := b) (x := (i : Int)) rfl (by omega)
    have e2 := load_arr hg (arrI_get L L.length (c := i) (by omega))
    have hfi := hf i (by omega)
    have d1 : decide (4 ≤ ((idx L i L.length).length : Int)) = false := dF (by omega)
    refine GoS.loopD (a' := c_law33_MergeLeavesFew_l3) rfl (GoW.sound ?_)
    simp (disch := (first | omega | (unfold InR; omega))) only [c_law33_MergeLeavesFew_l3, go_sem, ↓reduceIte, Nat.reduceEqDiff, Nat.reduceAdd, t10, t13, d0, d1, e1, e2, Bool.false_eq_true, reduceCtorEq]
    refine ih (i + 1) _ (by omega) ?_ ?_ fun T' g => h T' fun s hs => (g s hs).trans ?_
    · simp only [go_sem, ↓reduceIte, Nat.reduceEqDiff, t10]
    · simp only [go_sem, ↓reduceIte, Nat.reduceEqDiff, Int.natCast_add, Int.natCast_one]
    · simp (disch := omega) only [go_sem, if_neg]
def sndC : ACode → ACode
  | .seq _ b => b
  | c => c
def restC : ACode := sndC (sndC (sndC (sndC (sndC (sndC (sndC (sndC c_law33_MergeLeavesFew)))))))
theorem few_rest {l L : List Int} {mv : Int} (h80 : l.length ≤ 80) (hx : ∀ x, x ∈ l → 1 ≤ x ∧ x ≤ 4096) (hs : settleM l = (L, mv)) {T : Fr} {H : AHeap} {R : AV → AHeap → Prop} (hf : ∀ i, H.nx ≤ i → H.get i = none) (hR : R (.bool true) H)
    (t3 : gN T 3 = iv (suml l)) (t5 : gN T 5 = lstE 1 encI (pickM l)) (t101 : gN T 101 = lstE 1 encI l) :
    GoS tbl [.ops [⟨some p102, .call 10 [x101], none⟩, o (some p100) (.mov x102), o (some p103) (.extract x100 0), o (some p104) (.extract x100 1), o (some p7) (.mov x103), o (some p8) (.mov x104)], .code restC] .normal T H (Res [.t p2] H R) := by
  have hx0 : ∀ x, x ∈ l → 0 ≤ x ∧ x ≤ 4096 := fun x h => ⟨by have := hx x h; omega, (hx x h).2⟩
  have so := settleM_ok hx
  rw [hs] at so
  obtain ⟨s1, s2, s3, s4, s5⟩ := so
  simp only at s1 s2 s3 s4 s5
  have lf := len_few s1 s3
  rw [s2] at lf
  have tl : 0 ≤ suml l ∧ suml l ≤ 4096 * 80 := by
    have := suml_pos fun x h => (hx x h).1
    have ub : ∀ (m : List Int), (∀ x, x ∈ m → 1 ≤ x ∧ x ≤ 4096) → suml m ≤ 4096 * (m.length : Int) := by
      intro m
      induction m with
      | nil => intro _; simp [suml]
      | cons x m ih => intro h; have h1 := h x (by simp); have h2 := ih fun y hy => h y (by simp [hy]); simp only [suml, List.length_cons]; omega
    have := ub l hx
    omega
  refine GoS.call ?_
  simp only [go_sem, ↓reduceIte, Nat.reduceEqDiff, evs, t101]
  refine settle_does (by omega) hx0 (GoW.sound ?_)
  rw [hs]
  have x0 : opExtract (.tup [lstE 1 encI L, iv mv]) 0 = some (lstE 1 encI L) := rfl
  have x1 : opExtract (.tup [lstE 1 encI L, iv mv]) 1 = some (iv mv) := rfl
  have hL : L.length ≤ 1000 := by omega
  simp (disch := (first | omega | (unfold InR; omega))) only [restC, sndC, c_law33_MergeLeavesFew, go_sem, ↓reduceIte, Nat.reduceEqDiff, Nat.reduceAdd, t3, t5, x0, x1]
  have hx1 : ∀ x, x ∈ L → 0 ≤ x ∧ x ≤ 4096 := fun x h => ⟨by have := s1 x h; omega, (s1 x h).2⟩
  refine few_tally (b := H.nx) hL s1 L.length 0 0 _ _ (by omega) ?_ ?_ ?_ ?_ (get_push_same ..) (by omega) (by omega) fun T1 H1 g1 g2 g3 g4 => ?_
  · simp only [go_sem, ↓reduceIte, Nat.reduceEqDiff]
  · simp only [go_sem, ↓reduceIte, Nat.reduceEqDiff]
  · simp only [go_sem, ↓reduceIte, Nat.reduceEqDiff]
  · simp only [go_sem, ↓reduceIte]; rfl
  rw [List.drop_zero, Int.zero_add, s2] at g1
  have u3 := g2 3 (by omega)
  have u5 := g2 5 (by omega)
  have u7 := g2 7 (by omega)
  have u8 := g2 8 (by omega)
  have u10 := g2 10 (by omega)
  simp only [go_sem, ↓reduceIte, Nat.reduceEqDiff, t3, t5] at u3 u5 u7 u8 u10
  simp only [go_sem, ↓reduceIte, Nat.reduceEqDiff]
  refine few_check g3 (fun c hc => few s1 s3 hc) 4 0 _ (by omega) ?_ ?_ fun T2 e => ?_
  · simp only [go_sem, ↓reduceIte, Nat.reduceEqDiff, u10]
  · simp only [go_sem, ↓reduceIte]; rfl
  have v3 := e 3 (by omega)
  have v5 := e 5 (by omega)
  have v7 := e 7 (by omega)
  have v8 := e 8 (by omega)
  have v9 := e 9 (by omega)
  simp only [go_sem, ↓reduceIte, Nat.reduceEqDiff, u3, u5, u7, u8, g1] at v3 v5 v7 v8 v9
  simp only [go_sem, ↓reduceIte, Nat.reduceEqDiff]
  refine GoS.call ?_
  simp only [go_sem, ↓reduceIte, Nat.reduceEqDiff, evs]
  refine sanity_does (GoW.sound ?_)
  have d1 : decide (suml l = suml l) = true := dT rfl
  simp (disch := (first | omega | (unfold InR; omega))) only [go_sem, ↓reduceIte, Nat.reduceEqDiff, Nat.reduceAdd, v3, v5, v7, v8, v9, d1, decide_true, Bool.false_eq_true]
  refine GoS.call ?_
  simp only [go_sem, ↓reduceIte, Nat.reduceEqDiff, evs]
  refine pick_does (by omega) hx1 (GoW.sound ?_)
  have d2 : decide (((pickM L).length : Int) = 0) = true := dT (by omega)
  have dq : (suml l).tdiv 1025 = suml l / 1025 := Int.tdiv_eq_ediv_of_nonneg tl.1
  have q1 : bin .quo (iv (suml l)) (iv 1025) = some (iv (suml l / 1025)) := by
    rw [bin_quo (by omega) (by rw [dq]; unfold InR; omega), dq]
  have d3 : decide ((L.length : Int) ≤ 12 + suml l / 1025) = true := dT lf
  have d4 : decide (0 ≤ mv) = true := dT s4
  have d5 : decide (mv = 0) = decide (((pickM l).length : Int) = 0) := by
    rw [decide_eq_decide, s5]; omega
  have d6 : ∀ b : Bool, opEqv false .bool (.bool b) (.bool b) = some (.bool true) := fun b => by cases b <;> rfl
  simp (disch := (first | omega | (unfold InR; omega))) only [go_sem, ↓reduceIte, Nat.reduceEqDiff, Nat.reduceAdd, v3, v5, v7, v8, v9, d2, q1, d3, d4, d5, d6, Bool.false_eq_true]
  refine Fin.reset hf (fun i hi => ?_) (.pure _ rfl) hR
  rw [g4 i (by omega)]
  exact push_get_old hi
theorem leaves_does {l : List Int} (hlen : l.length ≤ 1125899906842624) {H : AHeap} {R : AV → AHeap → Prop} (hR : R (.bool true) H) : CallV tbl 4 [lstE 1 encI l] H R := by
  refine CallV.fresh fun hf => ?_
  refine T.callW rfl ?_
  simp only [c_law33_MergeLeavesFew, a4, go_sem, ↓reduceIte, Nat.reduceEqDiff, Nat.reduceAdd]
  refine GoS.call ?_
  simp only [go_sem, ↓reduceIte, Nat.reduceEqDiff, evs]
  refine counts_does hlen (GoW.sound ?_)
  cases hc : (cOk l && decide ((l.length : Int) ≤ 80)) with
  | false =>
    simp only [go_sem, ↓reduceIte, Nat.reduceEqDiff, Bool.not_false]
    refine GoS.call ?_
    simp only [go_sem, ↓reduceIte, Nat.reduceEqDiff, evs]
    refine sanity_does (GoW.sound ?_)
    simp only [go_sem, ↓reduceIte, Nat.reduceEqDiff]
    exact .same hR
  | true =>
    rw [Bool.and_eq_true, decide_eq_true_eq] at hc
    have hx : ∀ x, x ∈ l → 1 ≤ x ∧ x ≤ 4096 := fun x h => cOk_mem hc.1 h
    have hx0 : ∀ x, x ∈ l → 0 ≤ x ∧ x ≤ 4096 := fun x h => ⟨by have := hx x h; omega, (hx x h).2⟩
    have h80 : l.length ≤ 80 := by omega
    simp only [go_sem, ↓reduceIte, Nat.reduceEqDiff, Bool.not_true, Bool.false_eq_true]
    refine few_total (by omega) hx l.length 0 0 _ (by omega) ?_ ?_ ?_ (by omega) (by omega) fun T1 t0 t3 => ?_
    · simp only [go_sem, ↓reduceIte, Nat.reduceEqDiff]
    · simp only [go_sem, ↓reduceIte, Nat.reduceEqDiff]
    · simp only [go_sem, ↓reduceIte, Nat.reduceEqDiff]; rfl
    rw [List.drop_zero, Int.zero_add] at t3
    simp only [go_sem, ↓reduceIte, Nat.reduceEqDiff, t0]
    refine GoS.call ?_
    simp only [go_sem, ↓reduceIte, Nat.reduceEqDiff, evs]
    refine pick_does (by omega) hx0 (GoW.sound ?_)
    simp only [go_sem, ↓reduceIte, Nat.reduceEqDiff]
    have hp : (pickM l).length ≤ 4 ∧ (pickM l).Pairwise (· < ·) ∧ (∀ x, x ∈ pickM l → 0 ≤ x ∧ x < l.length) ∧ (∃ c : Int, ∀ p, p ∈ pickM l → cls (nth l p.toNat) = c) ∧ ((pickM l).length = 0 ∨ ((pickM l).length = 4 ∧ tot l (pickM l) ≤ 4096)) := by
      rcases pickM_ok l with e | ok
      · rw [e]; exact ⟨by simp, .nil, (fun x h => nomatch h), ⟨0, fun x h => nomatch h⟩, .inl rfl⟩
      · obtain ⟨c, hcc⟩ := ok.one
        exact ⟨by have := ok.len; omega, ok.asc, ok.mem, ⟨c, hcc⟩, .inr ⟨ok.len, ok.sum⟩⟩
    obtain ⟨p1, p2, p3, ⟨c, p4⟩, p5⟩ := hp
    refine few_picks (a := suml l) (by omega) hx (by omega) p2 p3 p4 (pickM l).length 0 _ (by omega) ?_ ?_ ?_ ?_ fun T2 u0 u3 u5 => ?_
    · simp only [go_sem, ↓reduceIte, Nat.reduceEqDiff, t0]
    · simp only [go_sem, ↓reduceIte, Nat.reduceEqDiff, t3]
    · simp only [go_sem, ↓reduceIte, Nat.reduceEqDiff]
    · simp only [go_sem, ↓reduceIte, Nat.reduceEqDiff]; rfl
    generalize hs : settleM l = s
    obtain ⟨L, mv⟩ := s
    rcases p5 with h0 | ⟨h4, hsum⟩
    · have d1 : decide (((pickM l).length : Int) ≠ 0) = false := dF (by omega)
      simp (disch := (first | omega | (unfold InR; omega))) only [go_sem, ↓reduceIte, Nat.reduceEqDiff, Nat.reduceAdd, u0, u3, u5, d1, Bool.false_eq_true, reduceCtorEq]
      refine few_rest h80 hx hs hf hR ?_ ?_ ?_
      all_goals simp only [go_sem, ↓reduceIte, Nat.reduceEqDiff, u3, u5]
    · have d1 : decide (((pickM l).length : Int) ≠ 0) = true := dT (by omega)
      have d2 : decide (((pickM l).length : Int) ≠ 4) = false := dF (by omega)
      have d3 : decide (4096 < tot l (pickM l)) = false := dF (by omega)
      simp (disch := (first | omega | (unfold InR; omega))) only [go_sem, ↓reduceIte, Nat.reduceEqDiff, Nat.reduceAdd, u0, u3, u5, d1, d2, Bool.false_eq_true, reduceCtorEq]
      refine GoS.call ?_
      simp only [go_sem, ↓reduceIte, Nat.reduceEqDiff, evs]
      refine rsum_does hx0 (by omega) p3 (GoW.sound ?_)
      simp (disch := (first | omega | (unfold InR; omega))) only [go_sem, ↓reduceIte, Nat.reduceEqDiff, Nat.reduceAdd, u0, u3, u5, d1, d2, d3, Bool.false_eq_true, reduceCtorEq]
      refine few_rest h80 hx hs hf hR ?_ ?_ ?_
      all_goals simp only [go_sem, ↓reduceIte, Nat.reduceEqDiff, u3, u5]
end Go.AM.T
