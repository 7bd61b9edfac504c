/- Frozen parts: what is still to be done, told by states with frozen values. GoS: said of all states without; GoW: carried out by rewriting, up to calls and loops. -/
import Derived.Test.YtgdceghclckfhaaGreatA01
set_option linter.unusedVariables false
set_option linter.unusedSimpArgs false
namespace Go.AM
open Go

inductive L2 {α β : Type} (R : α → β → Prop) : List α → List β → Prop where
  | nil : L2 R [] []
  | cons (a : α) (b : β) (x : List α) (y : List β) (h : R a b) (hs : L2 R x y) : L2 R (a :: x) (b :: y)
theorem L2.imp {α β : Type} {R S : α → β → Prop} (f : ∀ a b, R a b → S a b) : ∀ {x : List α} {y : List β}, L2 R x y → L2 S x y
  | _, _, .nil => .nil
  | _, _, .cons a b x y h hs => .cons a b x y (f _ _ h) (hs.imp f)
theorem L2.append {α β : Type} {R : α → β → Prop} : ∀ {x : List α} {y : List β} {x' : List α} {y' : List β}, L2 R x y → L2 R x' y' → L2 R (x ++ x') (y ++ y')
  | _, _, _, _, .nil, k => k
  | _, _, _, _, .cons a b x y h hs, k => .cons a b _ _ h (hs.append k)
theorem L2.reverse {α β : Type} {R : α → β → Prop} : ∀ {x : List α} {y : List β}, L2 R x y → L2 R x.reverse y.reverse
  | _, _, .nil => .nil
  | _, _, .cons a b x y h hs => by simpa using hs.reverse.append (.cons a b _ _ h .nil)
theorem L2.length {α β : Type} {R : α → β → Prop} : ∀ {x : List α} {y : List β}, L2 R x y → y.length = x.length
  | _, _, .nil => rfl
  | _, _, .cons a b x y h hs => by simp [hs.length]
theorem L2.get {α β : Type} {R : α → β → Prop} : ∀ {x : List α} {y : List β}, L2 R x y → ∀ {q : Nat} {c : β}, y[q]? = some c → ∃ a, x[q]? = some a ∧ R a c
  | _, _, .nil, _, _, e => by simp at e
  | _, _, .cons a b x y h hs, q, c, e => by
    cases q with
    | zero => simp at e; subst e; exact ⟨a, rfl, h⟩
    | succ q => simp at e; obtain ⟨a', h1, h2⟩ := hs.get e; exact ⟨a', by simpa using h1, h2⟩

/-! records over the stages -/
theorem stagesOk_iff {r : Rcd} : ∀ {L : List AHeap} {k : Nat}, stagesOk r k L = true ↔ ∀ q s, L[q]? = some s → r.lo ≤ k + q → k + q ≤ r.hi → r.ok s = true := by
  intro L
  induction L with
  | nil => intro k; simp [stagesOk]
  | cons G L ih =>
    intro k
    simp only [stagesOk, Bool.and_eq_true, ih]
    constructor
    · rintro ⟨h1, h2⟩ q s e hl hh
      cases q with
      | zero =>
        simp at e; subst e
        rw [if_pos ⟨Nat.ble_eq_true_of_le hl, Nat.ble_eq_true_of_le hh⟩] at h1
        exact h1
      | succ q =>
        simp at e
        exact h2 q s e (by omega) (by omega)
    · intro h
      refine ⟨?_, fun q s e hl hh => h (q + 1) s (by simpa using e) (by omega) (by omega)⟩
      split
      · rename_i hc
        exact h 0 G rfl (Nat.le_of_ble_eq_true hc.1) (Nat.le_of_ble_eq_true hc.2)
      · rfl
theorem rcdsOk_iff {L : List AHeap} : ∀ {rs : List Rcd}, rcdsOk L rs = true ↔ ∀ r, r ∈ rs → stagesOk r 0 L = true := by
  intro rs
  induction rs with
  | nil => simp [rcdsOk]
  | cons r rs ih => simp [rcdsOk, ih]

section
variable {b b2 : NMap} {A A2 B : Nat → Prop} {H G G2 : AHeap}

def HObj (b : NMap) (A : Nat → Prop) (H G : AHeap) : Prop := ∀ i o, H.get i = some o → live o = true → ∃ j u, b i = some j ∧ G.get j = some u ∧ FO b A G o u
theorem FH.hobj (h : FH b A B H G) : HObj b A H G := fun i o g l => let ⟨j, u, h1, _, _, h4, h5⟩ := h.obj i o g l; ⟨j, u, h1, h4, h5⟩
def Fut (b : NMap) (A : Nat → Prop) (G : AHeap) (H2 G2 : AHeap) : Prop := ∃ b2 A2, Mo b A G b2 A2 G2 ∧ HObj b2 A2 H2 G2
def Pas (b : NMap) (H1 G1 : AHeap) : Prop := ∃ b1 A1, (∀ i j, b1 i = some j → b i = some j) ∧ HObj b1 A1 H1 G1

/-- fx: from that stage on nothing was frozen -/
structure DrwOk (b : NMap) (A : Nat → Prop) (G : AHeap) (fx : Nat) (Gs : List AHeap) (rs : List Rcd) (Gs' : List AHeap) (rs' : List Rcd) : Prop where
  past : L2 (Pas b) Gs Gs'
  fix : ∀ s G1, Gs'.reverse[s]? = some G1 → fx ≤ s → ∀ j, A j → G1.get j = G.get j
  ok : ∀ Hs Ks, L2 (Fut b A G) Hs Ks → rcdsOk (Gs.reverse ++ Hs) rs = true → rcdsOk (Gs'.reverse ++ Ks) rs' = true
theorem DrwOk.monoF (m : Mo b A G b2 A2 G2) {fx fx2 : Nat} {Gs : List AHeap} {rs : List Rcd} {Gs' : List AHeap} {rs' : List Rcd} (h : DrwOk b A G fx Gs rs Gs' rs') (hf : ∀ s G1, Gs'.reverse[s]? = some G1 → fx2 ≤ s → ∀ j, A2 j → G1.get j = G2.get j) : DrwOk b2 A2 G2 fx2 Gs rs Gs' rs' where
  past := h.past.imp fun _ _ ⟨b1, A1, h1, h2⟩ => ⟨b1, A1, fun i j e => m.ext _ _ (h1 i j e), h2⟩
  fix := hf
  ok := fun Hs Ks k e => h.ok Hs Ks (k.imp fun _ _ ⟨b3, A3, h1, h2⟩ => ⟨b3, A3, m.trans h1, h2⟩) e
/-- where something was frozen -/
theorem DrwOk.mono (m : Mo b A G b2 A2 G2) {fx : Nat} {Gs : List AHeap} {rs : List Rcd} {Gs' : List AHeap} {rs' : List Rcd} (h : DrwOk b A G fx Gs rs Gs' rs') : DrwOk b2 A2 G2 Gs.length Gs rs Gs' rs' :=
  h.monoF m fun s G1 e hs => by
    have := (List.getElem?_eq_some_iff.1 e).1
    rw [List.length_reverse, h.past.length] at this
    omega
/-- where nothing was -/
theorem DrwOk.mono0 (m : Mo b A G b2 A G2) {fx : Nat} {Gs : List AHeap} {rs : List Rcd} {Gs' : List AHeap} {rs' : List Rcd} (h : DrwOk b A G fx Gs rs Gs' rs') : DrwOk b2 A G2 fx Gs rs Gs' rs' :=
  h.monoF m fun s G1 e hs j hj => (h.fix s G1 e hs j hj).trans (m.keep j hj).symm
theorem DrwOk.push (hh : FH b A B H G) {fx : Nat} {Gs : List AHeap} {rs : List Rcd} {Gs' : List AHeap} {rs' : List Rcd} (h : DrwOk b A G fx Gs rs Gs' rs') : DrwOk b A G fx (H :: Gs) rs (G :: Gs') rs' where
  past := .cons _ _ _ _ ⟨b, A, fun _ _ e => e, hh.hobj⟩ h.past
  fix := fun s G1 e hs j hj => by
    rw [List.reverse_cons] at e
    rcases Nat.lt_or_ge s Gs'.reverse.length with hl | hl
    · rw [List.getElem?_append_left hl] at e
      exact h.fix s G1 e hs j hj
    · rw [List.getElem?_append_right hl] at e
      have : s - Gs'.reverse.length = 0 := by
        have h1 := (List.getElem?_eq_some_iff.1 e).1
        have h2 : ([G] : List AHeap).length = 1 := rfl
        omega
      rw [this] at e
      simp at e; rw [e]
  ok := fun Hs Ks k e => by
    have := h.ok (H :: Hs) (G :: Ks) (.cons _ _ _ _ ⟨b, A, Mo.refl .., hh.hobj⟩ k) (by simpa using e)
    simpa using this

/-- a record on both sides -/
inductive RecR (b : NMap) : Rcd → Rcd → Prop where
  | fresh (i j : Nat) (cs : List AV) (lo hi : Nat) (h : b i = some j) (hc : closedVs cs = true) : RecR b (.fresh i cs lo hi) (.fresh j cs lo hi)
  | cells (i j off n : Nat) (vs vs' : List AV) (lo hi : Nat) (h : b i = some j) (b0 : NMap) (A0 : Nat → Prop) (G0 : AHeap) (hb : ∀ i j, b0 i = some j → b i = some j) (hv : FVs b0 A0 G0 vs vs') : RecR b (.cells i off n vs lo hi) (.cells j off n vs' lo hi)
theorem RecR.mono {r r' : Rcd} (m : ∀ i j, b i = some j → b2 i = some j) (h : RecR b r r') : RecR b2 r r' := by
  cases h with
  | fresh i j cs lo hi h hc => exact .fresh _ _ _ _ _ (m _ _ h) hc
  | cells i j off n vs vs' lo hi h b0 A0 G0 hb hv => exact .cells _ _ _ _ _ _ _ _ (m _ _ h) b0 A0 G0 (fun i j e => m _ _ (hb i j e)) hv
theorem RecR.lohi {r r' : Rcd} (h : RecR b r r') : r'.lo = r.lo ∧ r'.hi = r.hi := by cases h <;> exact ⟨rfl, rfl⟩
theorem RecR.ok {r r' : Rcd} (h : RecR b r r') {b1 : NMap} {A1 : Nat → Prop} {H1 G1 : AHeap} (ho : HObj b1 A1 H1 G1) (ag : Agree b1 b) (e : r.ok H1 = true) : r'.ok G1 = true := by
  cases h with
  | fresh i j cs lo hi h hc =>
    simp only [Rcd.ok] at e ⊢
    split at e <;> first | (cases e; done) | skip
    rename_i l hg
    have := avsEq_eq e
    subst this
    obtain ⟨j1, u, h1, h2, h3⟩ := ho _ _ hg rfl
    obtain rfl := ag _ _ _ h1 h
    cases h3 with
    | cells _ y _ k =>
      rw [h2]
      simp only
      rw [FVs.closed_eq k hc]
      exact e
  | cells i j off n vs vs' lo hi h b0 A0 G0 hb hv =>
    simp only [Rcd.ok] at e ⊢
    split at e <;> first | (cases e; done) | skip
    rename_i l hl
    have := avsEq_eq e
    subst this
    unfold AHeap.load at hl
    split at hl <;> first | (cases hl; done) | skip
    rename_i cs st hg
    obtain ⟨j1, u, h1, h2, h3⟩ := ho _ _ hg rfl
    obtain rfl := ag _ _ _ h1 h
    cases h3 with
    | cells _ y _ k =>
      obtain ⟨l', k1, k2⟩ := rangeOf_r k hl
      have hs : vs' = l' := FVs.same (b := b1) (b2 := b0) (fun i j q e1 e2 => ag _ _ _ e1 (hb _ _ e2)) k2 e hv
      simp only [AHeap.load, h2, k1]
      rw [hs]
      exact FVs.avsEq_self k2
theorem DrwOk.add {fx : Nat} {Gs : List AHeap} {rs : List Rcd} {Gs' : List AHeap} {rs' : List Rcd} (h : DrwOk b A G fx Gs rs Gs' rs') {r r' : Rcd} (hr : RecR b r r') : DrwOk b A G fx Gs (rs ++ [r]) Gs' (rs' ++ [r']) where
  past := h.past
  fix := h.fix
  ok := fun Hs Ks k e => by
    rw [rcdsOk_append, Bool.and_eq_true] at e ⊢
    refine ⟨h.ok Hs Ks k e.1, ?_⟩
    simp only [rcdsOk, Bool.and_true] at e ⊢
    have e2 := e.2
    rw [stagesOk_iff] at e2 ⊢
    intro q s hs hl hh
    have all : L2 (fun H1 G1 => ∃ b1 A1, HObj b1 A1 H1 G1 ∧ Agree b1 b) (Gs.reverse ++ Hs) (Gs'.reverse ++ Ks) :=
      (h.past.reverse.imp fun _ _ ⟨b1, A1, h1, h2⟩ => ⟨b1, A1, h2, fun i j k e1 e3 => by rw [h1 i j e1] at e3; cases e3; rfl⟩).append (k.imp fun _ _ ⟨b1, A1, h1, h2⟩ => ⟨b1, A1, h2, fun i j k e1 e3 => by rw [h1.ext i k e3] at e1; cases e1; rfl⟩)
    obtain ⟨H1, g1, b1, A1, g2, g3⟩ := all.get hs
    rw [hr.lohi.1] at hl
    rw [hr.lohi.2] at hh
    exact hr.ok g2 g3 (e2 q H1 g1 hl hh)
/-- a frozen block was looked at -/
theorem DrwOk.addF {fx : Nat} {Gs : List AHeap} {rs : List Rcd} {Gs' : List AHeap} {rs' : List Rcd} (h : DrwOk b A G fx Gs rs Gs' rs') {j off n lo hi : Nat} {cs vs : List AV} (hA : A j) (hl : G.load j off n = some vs) (hv : FVs b A G cs vs) (hlo : fx ≤ lo) :
    DrwOk b A G fx Gs rs Gs' (rs' ++ [.cells j off n vs lo hi]) where
  past := h.past
  fix := h.fix
  ok := fun Hs Ks k e => by
    rw [rcdsOk_append, Bool.and_eq_true]
    refine ⟨h.ok Hs Ks k e, ?_⟩
    simp only [rcdsOk, Bool.and_true]
    rw [stagesOk_iff]
    intro q s hs hl' hh
    have hlo' : lo ≤ 0 + q := hl'
    have hsj : s.get j = G.get j := by
      rcases Nat.lt_or_ge q Gs'.reverse.length with hq | hq
      · rw [List.getElem?_append_left hq] at hs
        exact h.fix q s hs (by omega) j hA
      · rw [List.getElem?_append_right hq] at hs
        obtain ⟨H1, g1, b1, A1, g2, g3⟩ := k.get hs
        exact g2.keep j hA
    have : s.load j off n = some vs := by
      unfold AHeap.load at hl ⊢
      rw [hsj]
      exact hl
    simp only [Rcd.ok, this]
    exact FVs.avsEq_self hv

def Pr (b : NMap) (p p' : Option Nat) : Prop := ∀ i, p = some i → ∃ j, p' = some j ∧ b i = some j
/-- items without a region under way -/
def okK : List KI → Bool
  | [] => true
  | .code c :: k => okC c && okK k
  | .ops l :: k => okOps l && okK k
  | .blk _ :: k => okK k
  | .drw .. :: _ => false
/-- what lies behind an operation -/
inductive FB (b : NMap) (A : Nat → Prop) (G : AHeap) : List KI → List KI → Prop where
  | plain (k : List KI) (ok : okK k = true) : FB b A G k k
  | drw (prev prev' : Option Nat) (ids ids' : List Nat) (fx fx' : Nat) (Gs Gs' : List AHeap) (rs rs' : List Rcd) (l : List (DK × AOper)) (k : List KI) (ok : okDs l = true) (hp : Pr b prev prev')
      (hi : L2 (fun i j => b i = some j) ids ids') (hd : DrwOk b A G fx Gs rs Gs' rs') (h : okK k = true) : FB b A G (.drw prev ids fx Gs rs l :: k) (.drw prev' ids' fx' Gs' rs' l :: k)
inductive FK (b : NMap) (A : Nat → Prop) (G : AHeap) : List KI → List KI → Prop where
  | plain (k : List KI) (ok : okK k = true) : FK b A G k k
  | ops (l : List AOper) (k k' : List KI) (ok : okOps l = true) (h : FB b A G k k') : FK b A G (.ops l :: k) (.ops l :: k')
  | drw (prev prev' : Option Nat) (ids ids' : List Nat) (fx fx' : Nat) (Gs Gs' : List AHeap) (rs rs' : List Rcd) (l : List (DK × AOper)) (k : List KI) (ok : okDs l = true) (hp : Pr b prev prev')
      (hi : L2 (fun i j => b i = some j) ids ids') (hd : DrwOk b A G fx Gs rs Gs' rs') (h : okK k = true) : FK b A G (.drw prev ids fx Gs rs l :: k) (.drw prev' ids' fx' Gs' rs' l :: k)
/-- how many stages -/
def gl : List AHeap → Nat
  | [] => 0
  | _ :: r => gl r + 1
theorem gl_len : ∀ l : List AHeap, gl l = l.length
  | [] => rfl
  | _ :: r => by simp [gl, gl_len r]
theorem gl_nil : gl [] = 0 := rfl
theorem gl_cons (G : AHeap) (r : List AHeap) : gl (G :: r) = gl r + 1 := rfl
/-- behind a call that froze something -/
def bump : List KI → List KI
  | .drw prev ids _ Gs rs l :: k => .drw prev ids (gl Gs) Gs rs l :: k
  | k => k
theorem bump_code (c : ACode) (k : List KI) : bump (.code c :: k) = .code c :: k := rfl
theorem bump_ops (l : List AOper) (k : List KI) : bump (.ops l :: k) = .ops l :: k := rfl
theorem bump_blk (id : Nat) (k : List KI) : bump (.blk id :: k) = .blk id :: k := rfl
theorem bump_drw (prev : Option Nat) (ids : List Nat) (fx : Nat) (Gs : List AHeap) (rs : List Rcd) (l : List (DK × AOper)) (k : List KI) : bump (.drw prev ids fx Gs rs l :: k) = .drw prev ids (gl Gs) Gs rs l :: k := rfl
theorem bump_nil : bump [] = [] := rfl
theorem bump_ok {k : List KI} (h : okK k = true) : bump k = k := by
  cases k with
  | nil => rfl
  | cons x k => cases x <;> first | rfl | cases h
theorem FB.mono0 (m : Mo b A G b2 A G2) {k k' : List KI} : FB b A G k k' → FB b2 A G2 k k'
  | .plain k ok => .plain k ok
  | .drw prev prev' ids ids' fx fx' Gs Gs' rs rs' l k ok hp hi hd h =>
    .drw prev prev' ids ids' fx fx' Gs Gs' rs rs' l k ok (fun i e => let ⟨j, h1, h2⟩ := hp i e; ⟨j, h1, m.ext _ _ h2⟩) (hi.imp fun _ _ e => m.ext _ _ e) (hd.mono0 m) h
/-- the head's operations, and what lies behind -/
theorem FK.ops_inv {l : List AOper} {k k2 : List KI} (h : FK b A G (.ops l :: k) k2) : ∃ k', k2 = .ops l :: k' ∧ okOps l = true ∧ FB b A G k k' := by
  cases h with
  | plain _ ok => simp only [okK, Bool.and_eq_true] at ok; exact ⟨k, rfl, ok.1, .plain k ok.2⟩
  | ops _ _ k' ok h => exact ⟨k', rfl, ok, h⟩
theorem FK.code_inv {c : ACode} {k k2 : List KI} (h : FK b A G (.code c :: k) k2) : k2 = .code c :: k ∧ okC c = true ∧ okK k = true := by
  cases h with
  | plain _ ok => simp only [okK, Bool.and_eq_true] at ok; exact ⟨rfl, ok.1, ok.2⟩
theorem FK.blk_inv {id : Nat} {k k2 : List KI} (h : FK b A G (.blk id :: k) k2) : k2 = .blk id :: k ∧ okK k = true := by
  cases h with
  | plain _ ok => exact ⟨rfl, ok⟩
theorem FB.fk {k k' : List KI} : FB b A G k k' → FK b A G k k'
  | .plain k ok => .plain k ok
  | .drw prev prev' ids ids' fx fx' Gs Gs' rs rs' l k ok hp hi hd h => .drw prev prev' ids ids' fx fx' Gs Gs' rs rs' l k ok hp hi hd h
theorem FB.mono (m : Mo b A G b2 A2 G2) {k k' : List KI} : FB b A G k k' → FB b2 A2 G2 (bump k) k'
  | .plain k ok => by rw [bump_ok ok]; exact .plain k ok
  | .drw prev prev' ids ids' fx fx' Gs Gs' rs rs' l k ok hp hi hd h =>
    .drw prev prev' ids ids' (gl Gs) fx' Gs Gs' rs rs' l k ok (fun i e => let ⟨j, h1, h2⟩ := hp i e; ⟨j, h1, m.ext _ _ h2⟩) (hi.imp fun _ _ e => m.ext _ _ e) (by rw [gl_len]; exact hd.mono m) h
end

/-! what is said of all states without frozen values -/
def CallV (tbl : Nat → Option AFn) (f : Nat) (args : List AV) (H : AHeap) (P : AV → AHeap → Prop) : Prop :=
  ∀ b A B G args', FH b A B H G → FVs b A G args args' → CallA tbl f args' G fun r' G2 => ∃ b2 A2 r H2, FH b2 A2 B H2 G2 ∧ Ke b A B G b2 A2 G2 ∧ FV b2 A2 G2 r r' ∧ P r H2
def YldV (tbl : Nat → Option AFn) (i : Nat) (args : List AV) (H : AHeap) (P : AV → AHeap → Prop) : Prop :=
  ∀ b A B G args' j, FH b A B H G → FVs b A G args args' → b i = some j → YldA tbl j args' G fun r' G2 => ∃ b2 A2 r H2, FH b2 A2 B H2 G2 ∧ Ke b A B G b2 A2 G2 ∧ FV b2 A2 G2 r r' ∧ P r H2
def GoS (tbl : Nat → Option AFn) (k : List KI) (e : AExit) (T : Fr) (H : AHeap) (Q : AExit → Fr → AHeap → Prop) : Prop :=
  ∀ b A B G T' k', FH b A B H G → FT b A G T T' → FK b A G k k' → GoA tbl k' e T' G fun e2 T2' G2 => ∃ b2 A2 T2 H2, FH b2 A2 B H2 G2 ∧ Ke b A B G b2 A2 G2 ∧ FT b2 A2 G2 T2 T2' ∧ Q e2 T2 H2

section
variable {tbl : Nat → Option AFn} {k : List KI} {T : Fr} {H : AHeap} {Q Q' : AExit → Fr → AHeap → Prop} {P P' : AV → AHeap → Prop}

theorem CallV.mono {f : Nat} {args : List AV} (h : CallV tbl f args H P) (hp : ∀ r H, P r H → P' r H) : CallV tbl f args H P' :=
  fun b A B G args' h1 h2 => (h b A B G args' h1 h2).mono fun _ _ ⟨b2, A2, r, H2, g1, g2, g3, g4⟩ => ⟨b2, A2, r, H2, g1, g2, g3, hp _ _ g4⟩
theorem YldV.mono {i : Nat} {args : List AV} (h : YldV tbl i args H P) (hp : ∀ r H, P r H → P' r H) : YldV tbl i args H P' :=
  fun b A B G args' j h1 h2 h3 => (h b A B G args' j h1 h2 h3).mono fun _ _ ⟨b2, A2, r, H2, g1, g2, g3, g4⟩ => ⟨b2, A2, r, H2, g1, g2, g3, hp _ _ g4⟩
theorem GoS.mono {e : AExit} (h : GoS tbl k e T H Q) (hq : ∀ e T H, Q e T H → Q' e T H) : GoS tbl k e T H Q' :=
  fun b A B G T' k' h1 h2 h3 => (h b A B G T' k' h1 h2 h3).mono fun _ _ _ ⟨b2, A2, T2, H2, g1, g2, g3, g4⟩ => ⟨b2, A2, T2, H2, g1, g2, g3, hq _ _ _ g4⟩

/-- the rest, behind a call -/
theorem GoA.then_ {b : NMap} {A B : Nat → Prop} {G : AHeap} {b2 : NMap} {A2 : Nat → Prop} {G2 : AHeap} {k' : List KI} {e : AExit} {T' : Fr} (ke : Ke b A B G b2 A2 G2)
    (h : GoA tbl k' e T' G2 fun e2 T2' G3 => ∃ b3 A3 T3 H3, FH b3 A3 B H3 G3 ∧ Ke b2 A2 B G2 b3 A3 G3 ∧ FT b3 A3 G3 T3 T2' ∧ Q e2 T3 H3) :
    GoA tbl k' e T' G2 fun e2 T2' G3 => ∃ b3 A3 T3 H3, FH b3 A3 B H3 G3 ∧ Ke b A B G b3 A3 G3 ∧ FT b3 A3 G3 T3 T2' ∧ Q e2 T3 H3 :=
  h.mono fun _ _ _ ⟨b3, A3, T3, H3, g1, g2, g3, g4⟩ => ⟨b3, A3, T3, H3, g1, ke.trans g2, g3, g4⟩

theorem GoS.call {d : Option (List Bool)} {f : Nat} {a : List AX} {r : List AOper} (h : CallV tbl f (evs (ev T) a) H fun v H' => GoS tbl (.ops r :: bump k) .normal (putD d v T) H' Q) :
    GoS tbl (.ops (⟨d, .call f a, none⟩ :: r) :: k) .normal T H Q := by
  intro b A B G T' k' hH hT hK
  obtain ⟨k', rfl, ok, hK⟩ := hK.ops_inv
  simp only [okOps, okOp, Bool.and_eq_true] at ok
  refine go_call_of ((h b A B G _ hH (evs_r hT.ev ok.1)).mono ?_)
  rintro r' G2 ⟨b2, A2, v, H2, g1, g2, g3, g4⟩
  exact (g4 b2 A2 B G2 _ _ g1 ((hT.mono g2.mo).putD g3 d) (.ops _ _ _ ok.2 (hK.mono g2.mo))).then_ g2
theorem GoS.callv {d : Option (List Bool)} {x : AX} {a : List AX} {r : List AOper} {f : Nat} {first cap : List AV} (hx : ev T x = .fn f first cap)
    (h : CallV tbl f (first ++ (evs (ev T) a ++ cap)) H fun v H' => GoS tbl (.ops r :: bump k) .normal (putD d v T) H' Q) :
    GoS tbl (.ops (⟨d, .callv x a, none⟩ :: r) :: k) .normal T H Q := by
  intro b A B G T' k' hH hT hK
  obtain ⟨k', rfl, ok, hK⟩ := hK.ops_inv
  simp only [okOps, okOp, Bool.and_eq_true] at ok
  have hv := hT.ev x ok.1.1
  rw [hx] at hv
  generalize hw : ev T' x = w at hv
  cases hv with
  | fn _ _ _ x' y' h1 h2 =>
      refine go_callv_of hw ((h b A B G _ hH (h1.append ((evs_r hT.ev ok.1.2).append h2))).mono ?_)
      rintro r' G2 ⟨b2, A2, v, H2, g1, g2, g3, g4⟩
      exact (g4 b2 A2 B G2 _ _ g1 ((hT.mono g2.mo).putD g3 d) (.ops _ _ _ ok.2 (hK.mono g2.mo))).then_ g2
theorem GoS.yld {d : Option (List Bool)} {x : AX} {a : List AX} {r : List AOper} {i : Nat} (hx : ev T x = .yld i)
    (h : YldV tbl i (evs (ev T) a) H fun v H' => GoS tbl (.ops r :: bump k) .normal (putD d v T) H' Q) :
    GoS tbl (.ops (⟨d, .callv x a, none⟩ :: r) :: k) .normal T H Q := by
  intro b A B G T' k' hH hT hK
  obtain ⟨k', rfl, ok, hK⟩ := hK.ops_inv
  simp only [okOps, okOp, Bool.and_eq_true] at ok
  have hv := hT.ev x ok.1.1
  rw [hx] at hv
  generalize hw : ev T' x = w at hv
  cases hv with
  | yld _ j hj =>
      refine go_yld_of hw ((h b A B G _ j hH (evs_r hT.ev ok.1.2) hj).mono ?_)
      rintro r' G2 ⟨b2, A2, v, H2, g1, g2, g3, g4⟩
      exact (g4 b2 A2 B G2 _ _ g1 ((hT.mono g2.mo).putD g3 d) (.ops _ _ _ ok.2 (hK.mono g2.mo))).then_ g2
theorem GoS.loop {a : ACode} (h : GoS tbl (.code a :: .code (.loop a) :: k) .normal T H Q) : GoS tbl (.code (.loop a) :: k) .normal T H Q := by
  intro b A B G T' k' hH hT hK
  obtain ⟨rfl, ok, hK⟩ := hK.code_inv
  exact go_loop.2 (h b A B G T' _ hH hT (.plain _ (by simp only [okK, Bool.and_eq_true]; exact ⟨ok, ok, hK⟩)))
theorem GoS.rangef {f : AX} {ps : List (List Bool)} {assign body : ACode} {g : Nat} {first cap : List AV} (hx : ev T f = .fn g first cap)
    (h : CallV tbl g (first ++ ([.yld H.nx] ++ cap)) (H.push (.loop { st := .ready, pend := none, T := T, ps := ps, assign := assign, body := body }))
      fun _ H' => ∃ L, H'.get H.nx = some (.loop L) ∧ L.st ≠ .busy ∧ GoS tbl k (L.pend.getD .normal) T (H'.put H.nx (.loop { L with st := .exhausted })) Q) :
    GoS tbl (.code (.rangef f ps assign body) :: k) .normal T H Q := by
  intro b A B G T' k' hH hT hK
  obtain ⟨rfl, ok, hK⟩ := hK.code_inv
  · simp only [okC, Bool.and_eq_true] at ok
    have hv := hT.ev f ok.1
    rw [hx] at hv
    generalize hw : ev T' f = w at hv
    cases hv with
    | fn _ _ _ x' y' h1 h2 =>
      have ke := hH.push_ke (.loop { st := .ready, pend := none, T := T', ps := ps, assign := assign, body := body })
      have hp := hH.push (o := .loop { st := .ready, pend := none, T := T, ps := ps, assign := assign, body := body }) (u := .loop { st := .ready, pend := none, T := T', ps := ps, assign := assign, body := body })
        fun _ => .loop _ _ _ _ _ _ _ (hT.mono ke.mo) ok.2.1 ok.2.2
      refine go_rangef_of hw ((h _ A B _ _ hp ((h1.mono ke.mo).append (.cons _ _ _ _ (.yld _ _ (addB_same ..)) (h2.mono ke.mo)))).mono ?_)
      rintro r' G2 ⟨b2, A2, v, H2, g1, g2, g3, L, g4, g5, g6⟩
      obtain ⟨j, u, k1, k2, k3, k4, k5⟩ := g1.obj _ _ g4 rfl
      have hj : j = G.nx := by
        have := g2.mo.ext _ _ (addB_same b H.nx G.nx)
        rw [k1] at this; cases this; rfl
      subst hj
      cases k5 with
      | loop st pend T1 T1' ps1 as1 bo1 hTT ha hb =>
        refine ⟨_, k4, g5, ?_⟩
        have ke2 := FH.put_ke (b := b2) (G := G2) k2 k3 (.loop ⟨.exhausted, pend, T1', ps1, as1, bo1⟩)
        have hp2 := g1.put k1 k2 k3 (o := .loop ⟨.exhausted, pend, T1, ps1, as1, bo1⟩) (u := .loop ⟨.exhausted, pend, T1', ps1, as1, bo1⟩) fun _ => .loop _ _ _ _ _ _ _ (hTT.mono ke2.mo) ha hb
        have kk := (ke.trans g2).trans ke2
        exact (g6 b2 A2 B _ _ _ hp2 (hT.mono kk.mo) (.plain _ hK)).then_ kk
theorem yld_ofV {i : Nat} {args : List AV} {L : ALoop} {T1 : Fr} (hL : H.get i = some (.loop L)) (hT : setPs L.ps args L.T = some T1)
    (h : GoS tbl [.code L.assign] .normal T1 H fun e T2 H2 => e = .normal ∧ ∃ L2, H2.get i = some (.loop L2) ∧ L2.st = .ready ∧
      GoS tbl [.code L.body] .normal T2 (H2.put i (.loop { L2 with st := .busy })) fun e T3 H3 => ∃ L3, H3.get i = some (.loop L3) ∧
        (e = .normal → P (.bool true) (H3.put i (.loop { L3 with st := .ready, pend := none }))) ∧ (e ≠ .normal → P (.bool false) (H3.put i (.loop { L3 with st := .done, pend := some e })))) :
    YldV tbl i args H P := by
  intro b A B G args' j hH ha hi
  have setR : ∀ {ps : List (List Bool)} {x y : List AV} {T T' T1 : Fr}, FVs b A G x y → FT b A G T T' → setPs ps x T = some T1 → ∃ T1', setPs ps y T' = some T1' ∧ FT b A G T1 T1' := by
    intro ps
    induction ps with
    | nil =>
      intro x y T T' T1 hv hT e
      cases hv with
      | nil => simp [setPs] at e; subst e; exact ⟨T', rfl, hT⟩
      | cons => simp [setPs] at e
    | cons p ps ih =>
      intro x y T T' T1 hv hT e
      cases hv with
      | nil => simp [setPs] at e
      | cons v w x y h hs => simp only [setPs] at e ⊢; exact ih hs (hT.set h p) e
  obtain ⟨j', u, k1, k2, k3, k4, k5⟩ := hH.obj _ _ hL rfl
  rw [hi] at k1; cases k1
  cases k5 with
  | loop st pend Tl Tl' ps as bo hTT hok1 hok2 =>
    obtain ⟨T1', s1, s2⟩ := setR ha hTT hT
    refine yld_of k4 s1 ((h b A B G T1' _ hH s2 (.plain _ (by simp only [okK, hok1, Bool.and_self]))).mono ?_)
    rintro e T2' G2 ⟨b2, A2, T2, H2, g1, g2, g3, rfl, L2, g4, g5, g6⟩
    refine ⟨rfl, ?_⟩
    obtain ⟨q, u2, m1, m2, m3, m4, m5⟩ := g1.obj _ _ g4 rfl
    have hq : q = j := by have := g2.mo.ext _ _ hi; rw [m1] at this; cases this; rfl
    subst hq
    cases m5 with
    | loop st2 pend2 Tm Tm' ps2 as2 bo2 hTT2 hok3 hok4 =>
      refine ⟨_, m4, g5, ?_⟩
      have ke2 := FH.put_ke (b := b2) (G := G2) m2 m3 (.loop ⟨.busy, pend2, Tm', ps2, as2, bo2⟩)
      have hp2 := g1.put m1 m2 m3 (o := .loop ⟨.busy, pend2, Tm, ps2, as2, bo2⟩) (u := .loop ⟨.busy, pend2, Tm', ps2, as2, bo2⟩) fun _ => .loop _ _ _ _ _ _ _ (hTT2.mono ke2.mo) hok3 hok4
      refine (g6 b2 A2 B _ T2' _ hp2 (g3.mono ke2.mo) (.plain _ (by simp only [okK, hok2, Bool.and_self]))).mono ?_
      rintro e3 T3' G3 ⟨b3, A3, T3, H3, f1, f2, f3, L3, f4, f5, f6⟩
      obtain ⟨q3, u3, n1, n2, n3, n4, n5⟩ := f1.obj _ _ f4 rfl
      have hq3 : q3 = q := by have := f2.mo.ext _ _ m1; rw [n1] at this; cases this; rfl
      subst hq3
      cases n5 with
      | loop st3 pend3 Tn Tn' ps3 as3 bo3 hTT3 hok5 hok6 =>
        refine ⟨_, n4, fun en => ?_, fun en => ?_⟩
        · have ke3 := FH.put_ke (b := b3) (G := G3) n2 n3 (.loop ⟨.ready, none, Tn', ps3, as3, bo3⟩)
          have hp3 := f1.put n1 n2 n3 (o := .loop ⟨.ready, none, Tn, ps3, as3, bo3⟩) (u := .loop ⟨.ready, none, Tn', ps3, as3, bo3⟩) fun _ => .loop _ _ _ _ _ _ _ (hTT3.mono ke3.mo) hok5 hok6
          exact ⟨b3, A3, _, _, hp3, ((g2.trans ke2).trans f2).trans ke3, .bool _, f5 en⟩
        · have ke3 := FH.put_ke (b := b3) (G := G3) n2 n3 (.loop ⟨.done, some e3, Tn', ps3, as3, bo3⟩)
          have hp3 := f1.put n1 n2 n3 (o := .loop ⟨.done, some e3, Tn, ps3, as3, bo3⟩) (u := .loop ⟨.done, some e3, Tn', ps3, as3, bo3⟩) fun _ => .loop _ _ _ _ _ _ _ (hTT3.mono ke3.mo) hok5 hok6
          exact ⟨b3, A3, _, _, hp3, ((g2.trans ke2).trans f2).trans ke3, .bool _, f6 en⟩
end
end Go.AM
/- Straight-line code carried out by rewriting, up to calls and loops. -/
namespace Go.AM
open Go

/-- no call -/
def noCall : AOp → Bool
  | .call .. => false
  | .callv .. => false
  | _ => true
/-- may a load of a region that draws be made of a frozen block? n: the stages that have been -/
def lOk (lo hi n : Nat) (o : AOper) (T : Fr) (H : AHeap) : Bool :=
  if Nat.beq lo hi then true else
  match wants o.guard T, o.op with
  | some true, .load x _ m =>
    (match ev T x with
     | .fp off cs => Nat.ble n lo && (rangeOf off m cs).isSome
     | .ptr i off => (H.load i off m).isSome
     | _ => true)
  | _, _ => true
theorem lOk_same (lo n : Nat) (o : AOper) (T : Fr) (H : AHeap) : lOk lo lo n o T H = true := by simp [lOk]

inductive GoW (tbl : Nat → Option AFn) (Q : AExit → Fr → AHeap → Prop) : List KI → AExit → Fr → AHeap → Prop where
  | fin (e : AExit) (T : Fr) (H : AHeap) (h : Q e T H) : GoW tbl Q [] e T H
  | seq (a b : ACode) (k : List KI) (T : Fr) (H : AHeap) (h : GoW tbl Q (.code a :: .code b :: k) .normal T H) : GoW tbl Q (.code (.seq a b) :: k) .normal T H
  | skip (k : List KI) (T : Fr) (H : AHeap) (h : GoW tbl Q k .normal T H) : GoW tbl Q (.code .skip :: k) .normal T H
  | region (l : List AOper) (k : List KI) (T : Fr) (H : AHeap) (h : GoW tbl Q (.ops l :: k) .normal T H) : GoW tbl Q (.code (.region l) :: k) .normal T H
  | block (id : Nat) (a : ACode) (k : List KI) (T : Fr) (H : AHeap) (h : GoW tbl Q (.code a :: .blk id :: k) .normal T H) : GoW tbl Q (.code (.block id a) :: k) .normal T H
  | exit (i : Nat) (k : List KI) (T : Fr) (H : AHeap) (h : GoW tbl Q k (.exit i) T H) : GoW tbl Q (.code (.exit i) :: k) .normal T H
  | ret (k : List KI) (T : Fr) (H : AHeap) (h : GoW tbl Q k .ret T H) : GoW tbl Q (.code .ret :: k) .normal T H
  | codeE (c : ACode) (i : Nat) (k : List KI) (T : Fr) (H : AHeap) (h : GoW tbl Q k (.exit i) T H) : GoW tbl Q (.code c :: k) (.exit i) T H
  | codeR (c : ACode) (k : List KI) (T : Fr) (H : AHeap) (h : GoW tbl Q k .ret T H) : GoW tbl Q (.code c :: k) .ret T H
  | blk (id : Nat) (k : List KI) (T : Fr) (H : AHeap) (h : GoW tbl Q k .normal T H) : GoW tbl Q (.blk id :: k) .normal T H
  | blkR (id : Nat) (k : List KI) (T : Fr) (H : AHeap) (h : GoW tbl Q k .ret T H) : GoW tbl Q (.blk id :: k) .ret T H
  | blkE (id i : Nat) (k : List KI) (T : Fr) (H : AHeap) (h : i = id → GoW tbl Q k .normal T H) (h2 : i ≠ id → GoW tbl Q k (.exit i) T H) : GoW tbl Q (.blk id :: k) (.exit i) T H
  | condT (c : AX) (a b : ACode) (k : List KI) (T : Fr) (H : AHeap) (hc : asB (ev T c) = some true) (h : GoW tbl Q (.code a :: k) .normal T H) : GoW tbl Q (.code (.cond c a b) :: k) .normal T H
  | condF (c : AX) (a b : ACode) (k : List KI) (T : Fr) (H : AHeap) (hc : asB (ev T c) = some false) (h : GoW tbl Q (.code b :: k) .normal T H) : GoW tbl Q (.code (.cond c a b) :: k) .normal T H
  | loop (a : ACode) (k : List KI) (T : Fr) (H : AHeap) (h : GoS tbl (.code (.loop a) :: k) .normal T H Q) : GoW tbl Q (.code (.loop a) :: k) .normal T H
  | rangef (f : AX) (ps : List (List Bool)) (a b : ACode) (k : List KI) (T : Fr) (H : AHeap) (h : GoS tbl (.code (.rangef f ps a b) :: k) .normal T H Q) : GoW tbl Q (.code (.rangef f ps a b) :: k) .normal T H
  | opsN (k : List KI) (T : Fr) (H : AHeap) (h : GoW tbl Q k .normal T H) : GoW tbl Q (.ops [] :: k) .normal T H
  | op (d : Option (List Bool)) (op : AOp) (r : List AOper) (k : List KI) (T : Fr) (H : AHeap) (v : AV) (H2 : AHeap) (hn : noCall op = true) (ho : evalOp (ev T) op H = some (v, H2)) (h : GoW tbl Q (.ops r :: k) .normal (putD d v T) H2) :
      GoW tbl Q (.ops (⟨d, op, none⟩ :: r) :: k) .normal T H
  | guardT (d : Option (List Bool)) (op : AOp) (p : List Bool) (b : Bool) (r : List AOper) (k : List KI) (T : Fr) (H : AHeap) (hg : asW b (Fr.at_ T p) = some b) (h : GoW tbl Q (.ops (⟨d, op, none⟩ :: r) :: k) .normal T H) :
      GoW tbl Q (.ops (⟨d, op, some (p, b)⟩ :: r) :: k) .normal T H
  | guardF (d : Option (List Bool)) (op : AOp) (p : List Bool) (b : Bool) (r : List AOper) (k : List KI) (T : Fr) (H : AHeap) (hg : asW b (Fr.at_ T p) = some (!b)) (h : GoW tbl Q (.ops r :: k) .normal (putD d (.tup []) T) H) :
      GoW tbl Q (.ops (⟨d, op, some (p, b)⟩ :: r) :: k) .normal T H
  | call (d : Option (List Bool)) (op : AOp) (r : List AOper) (k : List KI) (T : Fr) (H : AHeap) (hn : noCall op = false) (h : GoS tbl (.ops (⟨d, op, none⟩ :: r) :: k) .normal T H Q) : GoW tbl Q (.ops (⟨d, op, none⟩ :: r) :: k) .normal T H
  | draw (l : List (DK × AOper)) (k : List KI) (T : Fr) (H H2 : AHeap) (ids : List Nat) (rs : List Rcd) (hp : preRun l H = some (H2, ids, rs)) (h : GoW tbl Q (.drw none ids 0 [] rs l :: k) .normal T H2) : GoW tbl Q (.code (.draw l) :: k) .normal T H
  | drwN (prev : Option Nat) (ids : List Nat) (fx : Nat) (Gs : List AHeap) (rs : List Rcd) (k : List KI) (T : Fr) (H : AHeap) (hr : rcdsOk (Gs.reverse ++ [H]) rs = true) (h : GoW tbl Q k .normal T H) : GoW tbl Q (.drw prev ids fx Gs rs [] :: k) .normal T H
  | drwP (prev : Option Nat) (ids : List Nat) (fx : Nat) (Gs : List AHeap) (rs : List Rcd) (o : AOper) (l : List (DK × AOper)) (k : List KI) (T : Fr) (H : AHeap) (h : GoW tbl Q (.ops [o] :: .drw prev ids fx Gs rs l :: k) .normal T H) :
      GoW tbl Q (.drw prev ids fx Gs rs ((.p, o) :: l) :: k) .normal T H
  | drwL (prev : Option Nat) (ids : List Nat) (fx : Nat) (Gs : List AHeap) (rs : List Rcd) (o : AOper) (lo hi : Nat) (l : List (DK × AOper)) (k : List KI) (T : Fr) (H : AHeap) (hl : lOk lo hi fx o T H = true)
      (h : GoW tbl Q (.ops [o] :: .drw prev ids fx Gs (rs ++ recD lo hi o T H) l :: k) .normal T H) : GoW tbl Q (.drw prev ids fx Gs rs ((.l lo hi, o) :: l) :: k) .normal T H
  | drwE (prev : Option Nat) (ids : List Nat) (fx : Nat) (Gs : List AHeap) (rs : List Rcd) (o : AOper) (l : List (DK × AOper)) (k : List KI) (T : Fr) (H : AHeap) (h : GoW tbl Q (.ops [o] :: .drw (storeId o T) ids fx (H :: Gs) rs l :: k) .normal T H) :
      GoW tbl Q (.drw prev ids fx Gs rs ((.e, o) :: l) :: k) .normal T H
  | drwE2 (prev : Option Nat) (ids : List Nat) (fx : Nat) (Gs : List AHeap) (rs : List Rcd) (o : AOper) (l : List (DK × AOper)) (k : List KI) (T : Fr) (H : AHeap) (hd : differ prev (storeId o T) = true)
      (h : GoW tbl Q (.ops [o] :: .drw none ids fx (H :: Gs) rs l :: k) .normal T H) : GoW tbl Q (.drw prev ids fx Gs rs ((.e2, o) :: l) :: k) .normal T H
  | drwPre (prev : Option Nat) (id : Nat) (ids : List Nat) (fx : Nat) (Gs : List AHeap) (rs : List Rcd) (o : AOper) (a c : Nat) (l : List (DK × AOper)) (k : List KI) (T : Fr) (H : AHeap)
      (h : GoW tbl Q (.drw prev ids fx Gs rs l :: k) .normal (putD o.dst (.ptr id 0) T) H) : GoW tbl Q (.drw prev (id :: ids) fx Gs rs ((.pre a c, o) :: l) :: k) .normal T H

section
variable {b : NMap} {A B : Nat → Prop} {H G : AHeap}
theorem asB_eq {v w : AV} (h : FV b A G v w) : asB w = asB v := by cases h <;> rfl
theorem asW_eq {x : Bool} {v w : AV} (h : FV b A G v w) : asW x w = asW x v := by
  cases h with
  | tup _ _ h => cases h <;> rfl
  | _ => rfl
theorem wants_eq {T T' : Fr} (h : FT b A G T T') (g : Option (List Bool × Bool)) : wants g T' = wants g T := by
  unfold wants
  split
  · rfl
  · rename_i p c
    simp only [asW_eq (h p)]
theorem storeId_r {T T' : Fr} (h : FT b A G T T') {o : AOper} (ok : okOp o.op = true) : Pr b (storeId o T) (storeId o T') := by
  intro i e
  obtain ⟨d, op, g⟩ := o
  unfold storeId at e ⊢
  split at e <;> first | (cases e; done) | skip
  rename_i x v n h1 h2
  simp only at h1 h2 ok
  subst h1; subst h2
  simp only [okOp, Bool.and_eq_true] at ok
  have hx := h.ev x ok.1
  split at e <;> cases e
  rename_i hv
  rw [hv] at hx
  generalize hw : ev T' x = w at hx
  cases hx with
  | ptr _ _ j hj => exact ⟨j, rfl, hj⟩
theorem preRun_r : ∀ {l : List (DK × AOper)} {b : NMap} {H G : AHeap}, FH b A B H G → okDs l = true → ∀ {s}, preRun l H = some s →
    ∃ b2 s', preRun l G = some s' ∧ FH b2 A B s.1 s'.1 ∧ Ke b A B G b2 A s'.1 ∧ L2 (fun i j => b2 i = some j) s.2.1 s'.2.1 ∧ L2 (RecR b2) s.2.2 s'.2.2 := by
  intro l
  induction l with
  | nil => intro b H G h _ s e; cases e; exact ⟨b, (G, [], []), rfl, h, Ke.refl .., .nil, .nil⟩
  | cons x l ih =>
    intro b H G h ok s e
    obtain ⟨d, o⟩ := x
    simp only [okDs, Bool.and_eq_true] at ok
    cases d with
    | pre lo hi =>
      simp only [preRun] at e ⊢
      split at e <;> first | (cases e; done) | skip
      rename_i cs h1 h2
      rw [h2] at ok
      split at e <;> cases e
      rename_i s hs
      have hcl : closedVs cs = true := ok.1
      have ke := h.push_ke (.cells cs .own)
      obtain ⟨b2, s', g1, g2, g3, g4, g5⟩ := ih (h.push (o := .cells cs .own) (u := .cells cs .own) fun _ => .cells _ _ _ (FVs.closed hcl)) ok.2 hs
      have hid := g3.mo.ext _ _ (addB_same b H.nx G.nx)
      rw [g1]
      exact ⟨b2, _, rfl, g2, ke.trans g3, .cons _ _ _ _ hid g4, .cons _ _ _ _ (.fresh _ _ _ _ _ hid hcl) g5⟩
    | e => simp only [preRun] at e ⊢; exact ih h ok.2 e
    | e2 => simp only [preRun] at e ⊢; exact ih h ok.2 e
    | l x y => simp only [preRun] at e ⊢; exact ih h ok.2 e
    | p => simp only [preRun] at e ⊢; exact ih h ok.2 e
theorem L2.recs {b2 : NMap} {rs rs' : List Rcd} (h : L2 (RecR b2) rs rs') : DrwOk b2 A G 0 [] rs [] rs' := by
  have key : ∀ {rs0 rs0' rs rs' : List Rcd}, DrwOk b2 A G 0 [] rs0 [] rs0' → L2 (RecR b2) rs rs' → DrwOk b2 A G 0 [] (rs0 ++ rs) [] (rs0' ++ rs') := by
    intro rs0 rs0' rs rs' h0 h
    induction h generalizing rs0 rs0' with
    | nil => simpa using h0
    | cons a c x y hr hs ih => simpa using ih (h0.add hr)
  simpa using key (rs0 := []) (rs0' := []) ⟨.nil, fun s G1 e => by simp at e, fun Hs Ks _ _ => rfl⟩ h
end

section
variable {tbl : Nat → Option AFn} {Q : AExit → Fr → AHeap → Prop}
theorem GoW.sound {k : List KI} {e : AExit} {T : Fr} {H : AHeap} (h : GoW tbl Q k e T H) : GoS tbl k e T H Q := by
  induction h with
  | fin e T H h =>
    intro b A B G T' k' hH hT hK
    cases hK
    exact go_nil.2 ⟨b, A, T, H, hH, Ke.refl .., hT, h⟩
  | seq a c k T H h ih =>
    intro b A B G T' k' hH hT hK
    obtain ⟨rfl, ok, hK⟩ := hK.code_inv
    simp only [okC, Bool.and_eq_true] at ok
    exact go_seq.2 (ih b A B G T' _ hH hT (.plain _ (by simp only [okK, ok.1, ok.2, hK, Bool.and_self])))
  | skip k T H h ih =>
    intro b A B G T' k' hH hT hK
    obtain ⟨rfl, ok, hK⟩ := hK.code_inv
    exact go_skip.2 (ih b A B G T' _ hH hT (.plain _ hK))
  | region l k T H h ih =>
    intro b A B G T' k' hH hT hK
    obtain ⟨rfl, ok, hK⟩ := hK.code_inv
    exact go_region.2 (ih b A B G T' _ hH hT (.plain _ (by simp only [okC] at ok; simp only [okK, ok, hK, Bool.and_self])))
  | block id a k T H h ih =>
    intro b A B G T' k' hH hT hK
    obtain ⟨rfl, ok, hK⟩ := hK.code_inv
    exact go_block.2 (ih b A B G T' _ hH hT (.plain _ (by simp only [okC] at ok; simp only [okK, ok, hK, Bool.and_self])))
  | exit i k T H h ih =>
    intro b A B G T' k' hH hT hK
    obtain ⟨rfl, ok, hK⟩ := hK.code_inv
    exact go_exit.2 (ih b A B G T' _ hH hT (.plain _ hK))
  | ret k T H h ih =>
    intro b A B G T' k' hH hT hK
    obtain ⟨rfl, ok, hK⟩ := hK.code_inv
    exact go_ret.2 (ih b A B G T' _ hH hT (.plain _ hK))
  | codeE c i k T H h ih =>
    intro b A B G T' k' hH hT hK
    obtain ⟨rfl, ok, hK⟩ := hK.code_inv
    exact go_code_exit.2 (ih b A B G T' _ hH hT (.plain _ hK))
  | codeR c k T H h ih =>
    intro b A B G T' k' hH hT hK
    obtain ⟨rfl, ok, hK⟩ := hK.code_inv
    exact go_code_ret.2 (ih b A B G T' _ hH hT (.plain _ hK))
  | blk id k T H h ih =>
    intro b A B G T' k' hH hT hK
    obtain ⟨rfl, hKk⟩ := hK.blk_inv
    exact go_blk.2 (ih b A B G T' _ hH hT (.plain _ hKk))
  | blkR id k T H h ih =>
    intro b A B G T' k' hH hT hK
    obtain ⟨rfl, hKk⟩ := hK.blk_inv
    exact go_blk_ret.2 (ih b A B G T' _ hH hT (.plain _ hKk))
  | blkE id i k T H h h2 ih ih2 =>
    intro b A B G T' k' hH hT hK
    obtain ⟨rfl, hKk⟩ := hK.blk_inv
    refine go_blk_exit.2 ?_
    split
    · rename_i e; exact ih e b A B G T' _ hH hT (.plain _ hKk)
    · rename_i e; exact ih2 e b A B G T' _ hH hT (.plain _ hKk)
  | condT c x y k T H hc h ih =>
    intro b A B G T' k' hH hT hK
    obtain ⟨rfl, ok, hK⟩ := hK.code_inv
    simp only [okC, Bool.and_eq_true] at ok
    refine go_cond.2 ?_
    rw [asB_eq (hT.ev c ok.1), hc]
    exact ih b A B G T' _ hH hT (.plain _ (by simp only [okK, ok.2.1, hK, Bool.and_self]))
  | condF c x y k T H hc h ih =>
    intro b A B G T' k' hH hT hK
    obtain ⟨rfl, ok, hK⟩ := hK.code_inv
    simp only [okC, Bool.and_eq_true] at ok
    refine go_cond.2 ?_
    rw [asB_eq (hT.ev c ok.1), hc]
    exact ih b A B G T' _ hH hT (.plain _ (by simp only [okK, ok.2.2, hK, Bool.and_self]))
  | loop a k T H h => exact h
  | rangef f ps a c k T H h => exact h
  | opsN k T H h ih =>
    intro b A B G T' k' hH hT hK
    obtain ⟨k', rfl, ok, hK⟩ := hK.ops_inv
    exact go_ops_nil.2 (ih b A B G T' _ hH hT hK.fk)
  | op d op r k T H v H2 hn ho h ih =>
    intro b A B G T' k' hH hT hK
    obtain ⟨k', rfl, ok, hK⟩ := hK.ops_inv
    · skip
      simp only [okOps, Bool.and_eq_true] at ok
      obtain ⟨w, b2, G2, g1, g2, g3, g4⟩ := evalOp_r hT.ev hH ok.1 v H2 ho
      have hp := go_plain (tbl := tbl) (d := d) (op := op) (r := r) (k := k') (T := T') (H := G) (Q := fun e2 T2' G2 => ∃ b2 A2 T2 H2, FH b2 A2 B H2 G2 ∧ Ke b A B G b2 A2 G2 ∧ FT b2 A2 G2 T2 T2' ∧ Q e2 T2 H2)
        (plain_ok op (by cases op <;> first | rfl | cases hn))
      refine hp.2 ?_
      rw [g1]
      exact (ih b2 A B G2 _ _ g2 ((hT.mono g3.mo).putD g4 d) (.ops _ _ _ ok.2 (hK.mono0 g3.mo))).then_ g3
  | guardT d op p c r k T H hg h ih =>
    intro b A B G T' k' hH hT hK
    obtain ⟨k', rfl, ok, hK⟩ := hK.ops_inv
    · skip
      refine go_guard.2 ?_
      rw [asW_eq (hT p), hg]
      simp only [if_true]
      exact ih b A B G T' _ hH hT (.ops _ _ _ ok hK)
  | guardF d op p c r k T H hg h ih =>
    intro b A B G T' k' hH hT hK
    obtain ⟨k', rfl, ok, hK⟩ := hK.ops_inv
    · skip
      simp only [okOps, Bool.and_eq_true] at ok
      refine go_guard.2 ?_
      rw [asW_eq (hT p), hg]
      have : ¬ ((!c) = c) := by cases c <;> simp
      simp only [this, if_false]
      exact ih b A B G _ _ hH (hT.putD (.tup _ _ .nil) d) (.ops _ _ _ ok.2 hK)
  | call d op r k T H hn h => exact h
  | draw l k T H H2 ids rs hp h ih =>
    intro b A B G T' k' hH hT hK
    obtain ⟨rfl, ok, hK⟩ := hK.code_inv
    · obtain ⟨b2, s', g1, g2, g3, g4, g5⟩ := preRun_r hH ok hp
      obtain ⟨G2, ids', rs'⟩ := s'
      refine go_draw.2 ?_
      rw [g1]
      exact (ih b2 A B G2 T' _ g2 (hT.mono g3.mo) (.drw none none ids ids' 0 0 [] [] rs rs' l _ ok (fun i e => by cases e) g4 g5.recs hK)).then_ g3
  | drwN prev ids fx Gs rs k T H hr h ih =>
    intro b A B G T' k' hH hT hK
    cases hK with
    | plain _ ok => cases ok
    | drw _ prev' _ ids' _ fx' _ Gs' _ rs' _ _ ok hp hi hd hK =>
      refine go_drw_nil.2 ⟨hd.ok [H] [G] (.cons _ _ _ _ ⟨b, A, Mo.refl .., hH.hobj⟩ .nil) hr, ih b A B G T' _ hH hT (.plain _ hK)⟩
  | drwP prev ids fx Gs rs o l k T H h ih =>
    intro b A B G T' k' hH hT hK
    cases hK with
    | plain _ ok => cases ok
    | drw _ prev' _ ids' _ fx' _ Gs' _ rs' _ _ ok hp hi hd hK =>
      simp only [okDs, Bool.and_eq_true] at ok
      exact go_drw_p.2 (ih b A B G T' _ hH hT (.ops _ _ _ (by simp [okOps, ok.1]) (.drw _ _ _ _ _ _ _ _ _ _ _ _ ok.2 hp hi hd hK)))
  | drwL prev ids fx Gs rs o lo hi l k T H hl h ih =>
    intro b A B G T' k' hH hT hK
    cases hK with
    | plain _ ok => cases ok
    | drw _ prev' _ ids' _ fx' _ Gs' _ rs' _ _ ok hp hi' hd hK =>
      simp only [okDs, Bool.and_eq_true] at ok
      refine go_drw_l.2 (ih b A B G T' _ hH hT (.ops _ _ _ (by simp [okOps, ok.1]) (.drw _ _ _ _ _ _ _ _ _ _ _ _ ok.2 hp hi' ?_ hK)))
      unfold recD
      unfold lOk at hl
      split at hl
      · rename_i hb; rw [if_pos hb]; simpa [hb] using hd
      · rename_i hb
        rw [if_neg hb, if_neg hb]
        unfold rcdOf
        rw [wants_eq hT]
        cases hw : wants o.guard T with
        | none => simpa using hd
        | some c =>
          cases c with
          | false => simpa using hd
          | true =>
            rw [hw] at hl
            obtain ⟨dd, op, gg⟩ := o
            cases op
            case load x ag n =>
              simp only at hl ok ⊢
              have hx := hT.ev x (by simpa [okOp] using ok.1)
              generalize hv : ev T x = v at hx hl
              generalize hw' : ev T' x = w at hx
              cases hx with
              | ptr i off j hj =>
                simp only at hl ⊢
                cases hlo : H.load i off n with
                | none => rw [hlo] at hl; cases hl
                | some l1 =>
                  obtain ⟨l2, h1, h2⟩ := load_r hH hj hlo
                  simp only [h1]
                  exact hd.add (.cells _ _ _ _ _ _ _ _ hj b A G (fun _ _ e => e) h2)
              | fp off cs j base m lc st l' hA hG hr kk =>
                simp only [Bool.and_eq_true] at hl ⊢
                simp only [List.append_nil]
                cases hro : rangeOf off n cs with
                | none => rw [hro] at hl; cases hl.2
                | some l1 =>
                  obtain ⟨j2, o2, l2, h1, h2, h3, h4⟩ := fp_load (FV.fp off cs j base m lc st l' hA hG hr kk) hro
                  cases h1
                  simp only [h3]
                  exact hd.addF h2 h3 h4 (Nat.le_of_ble_eq_true hl.1)
              | _ => simpa using hd
            all_goals simpa using hd
  | drwE prev ids fx Gs rs o l k T H h ih =>
    intro b A B G T' k' hH hT hK
    cases hK with
    | plain _ ok => cases ok
    | drw _ prev' _ ids' _ fx' _ Gs' _ rs' _ _ ok hp hi hd hK =>
      simp only [okDs, Bool.and_eq_true] at ok
      exact go_drw_e.2 (ih b A B G T' _ hH hT (.ops _ _ _ (by simp [okOps, ok.1]) (.drw _ _ _ _ _ _ _ _ _ _ _ _ ok.2 (storeId_r hT ok.1) hi (hd.push hH) hK)))
  | drwE2 prev ids fx Gs rs o l k T H hdf h ih =>
    intro b A B G T' k' hH hT hK
    cases hK with
    | plain _ ok => cases ok
    | drw _ prev' _ ids' _ fx' _ Gs' _ rs' _ _ ok hp hi hd hK =>
      simp only [okDs, Bool.and_eq_true] at ok
      refine go_drw_e2.2 ⟨?_, ih b A B G T' _ hH hT (.ops _ _ _ (by simp [okOps, ok.1]) (.drw _ _ _ _ _ _ _ _ _ _ _ _ ok.2 (fun i e => by cases e) hi (hd.push hH) hK))⟩
      unfold differ at hdf
      split at hdf <;> first | (cases hdf; done) | skip
      rename_i i j e1
      obtain ⟨i', h1, h2⟩ := hp i rfl
      obtain ⟨j', h3, h4⟩ := storeId_r hT ok.1 j e1
      rw [h1, h3]
      simp only [differ]
      cases hb : Nat.beq i' j' with
      | false => rfl
      | true =>
        have := Nat.eq_of_beq_eq_true hb
        subst this
        have := hH.inj _ _ _ h2 h4
        subst this
        simp at hdf
  | drwPre prev id ids fx Gs rs o a c l k T H h ih =>
    intro b A B G T' k' hH hT hK
    cases hK with
    | plain _ ok => cases ok
    | drw _ prev' _ ids' _ fx' _ Gs' _ rs' _ _ ok hp hi hd hK =>
      simp only [okDs, Bool.and_eq_true] at ok
      cases hi with
      | cons _ id' _ ids' hid hids =>
        exact go_drw_pre.2 (ih b A B G _ _ hH (hT.putD (.ptr _ _ _ hid) o.dst) (.drw _ _ _ _ _ _ _ _ _ _ _ _ ok.2 hp hids hd hK))
end
end Go.AM
/- Straight-line code: one rule for each construct. -/
namespace Go.AM
open Go
section
variable {tbl : Nat → Option AFn} {k : List KI} {T : Fr} {H : AHeap} {Q : AExit → Fr → AHeap → Prop} {d : Option (List Bool)} {r : List AOper}
theorem w_nil {e : AExit} : GoW tbl Q [] e T H ↔ Q e T H := ⟨fun h => by cases h; assumption, fun h => .fin _ _ _ h⟩
theorem w_seq {a b : ACode} : GoW tbl Q (.code (.seq a b) :: k) .normal T H ↔ GoW tbl Q (.code a :: .code b :: k) .normal T H := ⟨fun h => by cases h; assumption, fun h => .seq _ _ _ _ _ h⟩
theorem w_skip : GoW tbl Q (.code .skip :: k) .normal T H ↔ GoW tbl Q k .normal T H := ⟨fun h => by cases h; assumption, fun h => .skip _ _ _ h⟩
theorem w_region {l : List AOper} : GoW tbl Q (.code (.region l) :: k) .normal T H ↔ GoW tbl Q (.ops l :: k) .normal T H := ⟨fun h => by cases h; assumption, fun h => .region _ _ _ _ h⟩
theorem w_block {id : Nat} {a : ACode} : GoW tbl Q (.code (.block id a) :: k) .normal T H ↔ GoW tbl Q (.code a :: .blk id :: k) .normal T H := ⟨fun h => by cases h; assumption, fun h => .block _ _ _ _ _ h⟩
theorem w_exit {i : Nat} : GoW tbl Q (.code (.exit i) :: k) .normal T H ↔ GoW tbl Q k (.exit i) T H := ⟨fun h => by cases h; assumption, fun h => .exit _ _ _ _ h⟩
theorem w_ret : GoW tbl Q (.code .ret :: k) .normal T H ↔ GoW tbl Q k .ret T H := ⟨fun h => by cases h; assumption, fun h => .ret _ _ _ h⟩
theorem w_code_exit {c : ACode} {i : Nat} : GoW tbl Q (.code c :: k) (.exit i) T H ↔ GoW tbl Q k (.exit i) T H := ⟨fun h => by cases h; assumption, fun h => .codeE _ _ _ _ _ h⟩
theorem w_code_ret {c : ACode} : GoW tbl Q (.code c :: k) .ret T H ↔ GoW tbl Q k .ret T H := ⟨fun h => by cases h; assumption, fun h => .codeR _ _ _ _ h⟩
theorem w_blk {id : Nat} : GoW tbl Q (.blk id :: k) .normal T H ↔ GoW tbl Q k .normal T H := ⟨fun h => by cases h; assumption, fun h => .blk _ _ _ _ h⟩
theorem w_blk_ret {id : Nat} : GoW tbl Q (.blk id :: k) .ret T H ↔ GoW tbl Q k .ret T H := ⟨fun h => by cases h; assumption, fun h => .blkR _ _ _ _ h⟩
theorem w_blk_exit {id i : Nat} : GoW tbl Q (.blk id :: k) (.exit i) T H ↔ if i = id then GoW tbl Q k .normal T H else GoW tbl Q k (.exit i) T H := by
  constructor
  · intro h
    cases h with
    | blkE _ _ _ _ _ h1 h2 =>
      split
      · exact h1 ‹_›
      · exact h2 ‹_›
  · intro h
    refine .blkE _ _ _ _ _ (fun e => ?_) fun e => ?_
    · rw [if_pos e] at h; exact h
    · rw [if_neg e] at h; exact h
theorem w_cond {c : AX} {a b : ACode} : GoW tbl Q (.code (.cond c a b) :: k) .normal T H ↔
    (match asB (ev T c) with | some x => if x = true then GoW tbl Q (.code a :: k) .normal T H else GoW tbl Q (.code b :: k) .normal T H | none => False) := by
  constructor
  · intro h
    cases h with
    | condT _ _ _ _ _ _ hc h => rw [hc]; simpa using h
    | condF _ _ _ _ _ _ hc h => rw [hc]; simpa using h
  · intro h
    cases hc : asB (ev T c) with
    | none => rw [hc] at h; exact h.elim
    | some x =>
      rw [hc] at h
      cases x with
      | true => exact .condT _ _ _ _ _ _ hc (by simpa using h)
      | false => exact .condF _ _ _ _ _ _ hc (by simpa using h)
theorem w_loop {a : ACode} : GoW tbl Q (.code (.loop a) :: k) .normal T H ↔ GoS tbl (.code (.loop a) :: k) .normal T H Q := ⟨fun h => by cases h; assumption, fun h => .loop _ _ _ _ h⟩
theorem w_rangef {f : AX} {ps : List (List Bool)} {a b : ACode} : GoW tbl Q (.code (.rangef f ps a b) :: k) .normal T H ↔ GoS tbl (.code (.rangef f ps a b) :: k) .normal T H Q := ⟨fun h => by cases h; assumption, fun h => .rangef _ _ _ _ _ _ _ h⟩
theorem w_ops_nil : GoW tbl Q (.ops [] :: k) .normal T H ↔ GoW tbl Q k .normal T H := ⟨fun h => by cases h; assumption, fun h => .opsN _ _ _ h⟩
theorem w_op {op : AOp} (hn : noCall op = true) :
    GoW tbl Q (.ops (⟨d, op, none⟩ :: r) :: k) .normal T H ↔ (match evalOp (ev T) op H with | some (v, H') => GoW tbl Q (.ops r :: k) .normal (putD d v T) H' | none => False) := by
  constructor
  · intro h
    cases h with
    | op _ _ _ _ _ _ v H2 _ ho h => rw [ho]; exact h
    | call _ _ _ _ _ _ hc => rw [hn] at hc; cases hc
  · intro h
    cases ho : evalOp (ev T) op H with
    | none => rw [ho] at h; exact h.elim
    | some s => rw [ho] at h; exact .op _ _ _ _ _ _ _ _ hn ho h
theorem w_call {f : Nat} {a : List AX} : GoW tbl Q (.ops (⟨d, .call f a, none⟩ :: r) :: k) .normal T H ↔ GoS tbl (.ops (⟨d, .call f a, none⟩ :: r) :: k) .normal T H Q := by
  constructor
  · intro h
    cases h with
    | op _ _ _ _ _ _ v H2 hn => cases hn
    | call _ _ _ _ _ _ _ h => exact h
  · exact .call _ _ _ _ _ _ rfl
theorem w_callv {x : AX} {a : List AX} : GoW tbl Q (.ops (⟨d, .callv x a, none⟩ :: r) :: k) .normal T H ↔ GoS tbl (.ops (⟨d, .callv x a, none⟩ :: r) :: k) .normal T H Q := by
  constructor
  · intro h
    cases h with
    | op _ _ _ _ _ _ v H2 hn => cases hn
    | call _ _ _ _ _ _ _ h => exact h
  · exact .call _ _ _ _ _ _ rfl
theorem w_guard {op : AOp} {p : List Bool} {b : Bool} :
    GoW tbl Q (.ops (⟨d, op, some (p, b)⟩ :: r) :: k) .normal T H ↔
      (match asW b (Fr.at_ T p) with | some c => if c = b then GoW tbl Q (.ops (⟨d, op, none⟩ :: r) :: k) .normal T H else GoW tbl Q (.ops r :: k) .normal (putD d (.tup []) T) H | none => False) := by
  constructor
  · intro h
    cases h with
    | guardT _ _ _ _ _ _ _ _ hg h => rw [hg]; simp only [if_true]; exact h
    | guardF _ _ _ _ _ _ _ _ hg h =>
      rw [hg]
      have : ¬ ((!b) = b) := by cases b <;> simp
      simp only [this, if_false]; exact h
  · intro h
    cases hg : asW b (Fr.at_ T p) with
    | none => rw [hg] at h; exact h.elim
    | some c =>
      rw [hg] at h
      by_cases e : c = b
      · subst e; simp only [if_true] at h; exact .guardT _ _ _ _ _ _ _ _ hg h
      · simp only [e, if_false] at h
        refine .guardF _ _ _ _ _ _ _ _ ?_ h
        rw [hg]; cases c <;> cases b <;> first | rfl | exact absurd rfl e
theorem w_draw {l : List (DK × AOper)} : GoW tbl Q (.code (.draw l) :: k) .normal T H ↔
    (match preRun l H with | some (H', ids, rs) => GoW tbl Q (.drw none ids 0 [] rs l :: k) .normal T H' | none => False) := by
  constructor
  · intro h
    cases h with
    | draw _ _ _ _ _ _ _ hp h => rw [hp]; exact h
  · intro h
    cases hp : preRun l H with
    | none => rw [hp] at h; exact h.elim
    | some s => rw [hp] at h; exact .draw _ _ _ _ _ _ _ hp h
theorem w_drw_nil {prev : Option Nat} {fx : Nat} {ids : List Nat} {Gs : List AHeap} {rs : List Rcd} : GoW tbl Q (.drw prev ids fx Gs rs [] :: k) .normal T H ↔ rcdsOk (Gs.reverse ++ [H]) rs = true ∧ GoW tbl Q k .normal T H :=
  ⟨fun h => by cases h with | drwN _ _ _ _ _ _ _ _ hr h => exact ⟨hr, h⟩, fun h => .drwN _ _ _ _ _ _ _ _ h.1 h.2⟩
theorem w_drw_p {prev : Option Nat} {fx : Nat} {ids : List Nat} {Gs : List AHeap} {rs : List Rcd} {o : AOper} {l : List (DK × AOper)} :
    GoW tbl Q (.drw prev ids fx Gs rs ((.p, o) :: l) :: k) .normal T H ↔ GoW tbl Q (.ops [o] :: .drw prev ids fx Gs rs l :: k) .normal T H := ⟨fun h => by cases h; assumption, fun h => .drwP _ _ _ _ _ _ _ _ _ _ h⟩
theorem w_drw_l {prev : Option Nat} {fx : Nat} {ids : List Nat} {Gs : List AHeap} {rs : List Rcd} {o : AOper} {l : List (DK × AOper)} {lo hi : Nat} :
    GoW tbl Q (.drw prev ids fx Gs rs ((.l lo hi, o) :: l) :: k) .normal T H ↔ lOk lo hi fx o T H = true ∧ GoW tbl Q (.ops [o] :: .drw prev ids fx Gs (rs ++ recD lo hi o T H) l :: k) .normal T H :=
  ⟨fun h => by cases h with | drwL _ _ _ _ _ _ _ _ _ _ _ _ hl h => exact ⟨hl, h⟩, fun h => .drwL _ _ _ _ _ _ _ _ _ _ _ _ h.1 h.2⟩
theorem w_drw_e {prev : Option Nat} {fx : Nat} {ids : List Nat} {Gs : List AHeap} {rs : List Rcd} {o : AOper} {l : List (DK × AOper)} :
    GoW tbl Q (.drw prev ids fx Gs rs ((.e, o) :: l) :: k) .normal T H ↔ GoW tbl Q (.ops [o] :: .drw (storeId o T) ids fx (H :: Gs) rs l :: k) .normal T H := ⟨fun h => by cases h; assumption, fun h => .drwE _ _ _ _ _ _ _ _ _ _ h⟩
theorem w_drw_e2 {prev : Option Nat} {fx : Nat} {ids : List Nat} {Gs : List AHeap} {rs : List Rcd} {o : AOper} {l : List (DK × AOper)} :
    GoW tbl Q (.drw prev ids fx Gs rs ((.e2, o) :: l) :: k) .normal T H ↔ differ prev (storeId o T) = true ∧ GoW tbl Q (.ops [o] :: .drw none ids fx (H :: Gs) rs l :: k) .normal T H :=
  ⟨fun h => by cases h with | drwE2 _ _ _ _ _ _ _ _ _ _ hd h => exact ⟨hd, h⟩, fun h => .drwE2 _ _ _ _ _ _ _ _ _ _ h.1 h.2⟩
theorem w_drw_pre {prev : Option Nat} {fx : Nat} {id : Nat} {ids : List Nat} {Gs : List AHeap} {rs : List Rcd} {o : AOper} {l : List (DK × AOper)} {a b : Nat} :
    GoW tbl Q (.drw prev (id :: ids) fx Gs rs ((.pre a b, o) :: l) :: k) .normal T H ↔ GoW tbl Q (.drw prev ids fx Gs rs l :: k) .normal (putD o.dst (.ptr id 0) T) H := ⟨fun h => by cases h; assumption, fun h => .drwPre _ _ _ _ _ _ _ _ _ _ _ _ _ h⟩

theorem w_mov {x : AX} : GoW tbl Q (.ops (⟨d, .mov x, none⟩ :: r) :: k) .normal T H ↔ GoW tbl Q (.ops r :: k) .normal (putD d (ev T x) T) H := by
  rw [w_op rfl]; rfl
theorem w_mkfn {f : Nat} {a b : List AX} : GoW tbl Q (.ops (⟨d, .mkfn f a b, none⟩ :: r) :: k) .normal T H ↔ GoW tbl Q (.ops r :: k) .normal (putD d (.fn f (evs (ev T) a) (evs (ev T) b)) T) H := by
  rw [w_op rfl]; rfl
theorem w_bin {op : BinOp} {x y : AX} : GoW tbl Q (.ops (⟨d, .bin op x y, none⟩ :: r) :: k) .normal T H ↔
    (match bin op (ev T x) (ev T y) with | some v => GoW tbl Q (.ops r :: k) .normal (putD d v T) H | none => False) := by
  rw [w_op rfl]
  simp only [evalOp]
  cases bin op (ev T x) (ev T y) <;> rfl
theorem w_eqv {neg : Bool} {kk : EqK} {x y : AX} : GoW tbl Q (.ops (⟨d, .eqv neg kk x y, none⟩ :: r) :: k) .normal T H ↔
    (match opEqv neg kk (ev T x) (ev T y) with | some v => GoW tbl Q (.ops r :: k) .normal (putD d v T) H | none => False) := by
  rw [w_op rfl]
  simp only [evalOp]
  cases opEqv neg kk (ev T x) (ev T y) <;> rfl
theorem w_un {op : UnOp} {x : AX} : GoW tbl Q (.ops (⟨d, .un op x, none⟩ :: r) :: k) .normal T H ↔
    (match unop op (ev T x) with | some v => GoW tbl Q (.ops r :: k) .normal (putD d v T) H | none => False) := by
  rw [w_op rfl]
  simp only [evalOp]
  cases unop op (ev T x) <;> rfl
theorem w_convI {ik : IntKind} {x : AX} : GoW tbl Q (.ops (⟨d, .convI ik x, none⟩ :: r) :: k) .normal T H ↔
    (match opConvI ik (ev T x) with | some v => GoW tbl Q (.ops r :: k) .normal (putD d v T) H | none => False) := by
  rw [w_op rfl]
  simp only [evalOp]
  cases opConvI ik (ev T x) <;> rfl
theorem w_mkif {t : Nat} {x : AX} : GoW tbl Q (.ops (⟨d, .mkif t x, none⟩ :: r) :: k) .normal T H ↔
    (match opMkif t (ev T x) with | some v => GoW tbl Q (.ops r :: k) .normal (putD d v T) H | none => False) := by
  rw [w_op rfl]
  simp only [evalOp]
  cases opMkif t (ev T x) <;> rfl
theorem w_slice {es : Nat} {x : AX} {lo hi top : Option AX} : GoW tbl Q (.ops (⟨d, .slice es x lo hi top, none⟩ :: r) :: k) .normal T H ↔
    (match opSlice es (ev T x) (optE (ev T) lo) (optE (ev T) hi) (optE (ev T) top) with | some v => GoW tbl Q (.ops r :: k) .normal (putD d v T) H | none => False) := by
  rw [w_op rfl]
  simp only [evalOp]
  cases opSlice es (ev T x) (optE (ev T) lo) (optE (ev T) hi) (optE (ev T) top) <;> rfl
theorem w_slstr {x : AX} {lo hi : Option AX} : GoW tbl Q (.ops (⟨d, .slstr x lo hi, none⟩ :: r) :: k) .normal T H ↔
    (match opSlstr (ev T x) (optE (ev T) lo) (optE (ev T) hi) with | some v => GoW tbl Q (.ops r :: k) .normal (putD d v T) H | none => False) := by
  rw [w_op rfl]
  simp only [evalOp]
  cases opSlstr (ev T x) (optE (ev T) lo) (optE (ev T) hi) <;> rfl
theorem w_faddr {off : Nat} {x : AX} : GoW tbl Q (.ops (⟨d, .faddr off x, none⟩ :: r) :: k) .normal T H ↔
    (match opFaddr off (ev T x) with | some v => GoW tbl Q (.ops r :: k) .normal (putD d v T) H | none => False) := by
  rw [w_op rfl]
  simp only [evalOp]
  cases opFaddr off (ev T x) <;> rfl
theorem w_field {off n : Nat} {ag : Bool} {x : AX} : GoW tbl Q (.ops (⟨d, .field off n ag x, none⟩ :: r) :: k) .normal T H ↔
    (match opField off n ag (ev T x) with | some v => GoW tbl Q (.ops r :: k) .normal (putD d v T) H | none => False) := by
  rw [w_op rfl]
  simp only [evalOp]
  cases opField off n ag (ev T x) <;> rfl
theorem w_iaddrS {es : Nat} {x i : AX} : GoW tbl Q (.ops (⟨d, .iaddrS es x i, none⟩ :: r) :: k) .normal T H ↔
    (match opIaddrS es (ev T x) (ev T i) with | some v => GoW tbl Q (.ops r :: k) .normal (putD d v T) H | none => False) := by
  rw [w_op rfl]
  simp only [evalOp]
  cases opIaddrS es (ev T x) (ev T i) <;> rfl
theorem w_iaddrA {n es : Nat} {x i : AX} : GoW tbl Q (.ops (⟨d, .iaddrA n es x i, none⟩ :: r) :: k) .normal T H ↔
    (match opIaddrA n es (ev T x) (ev T i) with | some v => GoW tbl Q (.ops r :: k) .normal (putD d v T) H | none => False) := by
  rw [w_op rfl]
  simp only [evalOp]
  cases opIaddrA n es (ev T x) (ev T i) <;> rfl
theorem w_idxA {len n : Nat} {ag : Bool} {x i : AX} : GoW tbl Q (.ops (⟨d, .idxA len n ag x i, none⟩ :: r) :: k) .normal T H ↔
    (match opIdxA len n ag (ev T x) (ev T i) with | some v => GoW tbl Q (.ops r :: k) .normal (putD d v T) H | none => False) := by
  rw [w_op rfl]
  simp only [evalOp]
  cases opIdxA len n ag (ev T x) (ev T i) <;> rfl
theorem w_idxS {x i : AX} : GoW tbl Q (.ops (⟨d, .idxS x i, none⟩ :: r) :: k) .normal T H ↔
    (match opIdxS (ev T x) (ev T i) with | some v => GoW tbl Q (.ops r :: k) .normal (putD d v T) H | none => False) := by
  rw [w_op rfl]
  simp only [evalOp]
  cases opIdxS (ev T x) (ev T i) <;> rfl
theorem w_extract {x : AX} {i : Nat} : GoW tbl Q (.ops (⟨d, .extract x i, none⟩ :: r) :: k) .normal T H ↔
    (match opExtract (ev T x) i with | some v => GoW tbl Q (.ops r :: k) .normal (putD d v T) H | none => False) := by
  rw [w_op rfl]
  simp only [evalOp]
  cases opExtract (ev T x) i <;> rfl
theorem w_len {st : Bool} {x : AX} : GoW tbl Q (.ops (⟨d, .len st x, none⟩ :: r) :: k) .normal T H ↔
    (match opLen st (ev T x) with | some v => GoW tbl Q (.ops r :: k) .normal (putD d v T) H | none => False) := by
  rw [w_op rfl]
  simp only [evalOp]
  cases opLen st (ev T x) <;> rfl
theorem w_mx {xs : List AX} : GoW tbl Q (.ops (⟨d, .mx xs, none⟩ :: r) :: k) .normal T H ↔
    (match opFold maxI (evs (ev T) xs) with | some v => GoW tbl Q (.ops r :: k) .normal (putD d v T) H | none => False) := by
  rw [w_op rfl]
  simp only [evalOp]
  cases opFold maxI (evs (ev T) xs) <;> rfl
theorem w_mn {xs : List AX} : GoW tbl Q (.ops (⟨d, .mn xs, none⟩ :: r) :: k) .normal T H ↔
    (match opFold minI (evs (ev T) xs) with | some v => GoW tbl Q (.ops r :: k) .normal (putD d v T) H | none => False) := by
  rw [w_op rfl]
  simp only [evalOp]
  cases opFold minI (evs (ev T) xs) <;> rfl
theorem w_pick {c x y : AX} : GoW tbl Q (.ops (⟨d, .pick c x y, none⟩ :: r) :: k) .normal T H ↔
    (match opPick (ev T c) (ev T x) (ev T y) H with | some (v, H') => GoW tbl Q (.ops r :: k) .normal (putD d v T) H' | none => False) := by
  rw [w_op rfl]; rfl
theorem w_alloc {cs : List AV} : GoW tbl Q (.ops (⟨d, .alloc cs, none⟩ :: r) :: k) .normal T H ↔
    (match some (AV.ptr H.nx 0, lay cs H) with | some (v, H') => GoW tbl Q (.ops r :: k) .normal (putD d v T) H' | none => False) := by
  rw [w_op rfl]; rfl
theorem w_box {x : AX} : GoW tbl Q (.ops (⟨d, .box x, none⟩ :: r) :: k) .normal T H ↔
    (match opBox (ev T x) H with | some (v, H') => GoW tbl Q (.ops r :: k) .normal (putD d v T) H' | none => False) := by
  rw [w_op rfl]; rfl
theorem w_build {z : List AV} {ps : List (Nat × Nat × AX)} : GoW tbl Q (.ops (⟨d, .build z ps, none⟩ :: r) :: k) .normal T H ↔
    (match opBuild z (parts (ev T) ps) H with | some (v, H') => GoW tbl Q (.ops r :: k) .normal (putD d v T) H' | none => False) := by
  rw [w_op rfl]; rfl
theorem w_bslice {es n : Nat} {z : List AV} {ps : List (Nat × Nat × AX)} : GoW tbl Q (.ops (⟨d, .bslice es n z ps, none⟩ :: r) :: k) .normal T H ↔
    (match opBslice es n z (parts (ev T) ps) H with | some (v, H') => GoW tbl Q (.ops r :: k) .normal (putD d v T) H' | none => False) := by
  rw [w_op rfl]; rfl
theorem w_load {x : AX} {ag : Bool} {n : Nat} : GoW tbl Q (.ops (⟨d, .load x ag n, none⟩ :: r) :: k) .normal T H ↔
    (match opLoad (ev T x) ag n H with | some (v, H') => GoW tbl Q (.ops r :: k) .normal (putD d v T) H' | none => False) := by
  rw [w_op rfl]; rfl
theorem w_store {x v : AX} {n : Nat} : GoW tbl Q (.ops (⟨d, .store x v n, none⟩ :: r) :: k) .normal T H ↔
    (match opStore (ev T x) (ev T v) n H with | some (v, H') => GoW tbl Q (.ops r :: k) .normal (putD d v T) H' | none => False) := by
  rw [w_op rfl]; rfl
theorem w_nilchk {x : AX} : GoW tbl Q (.ops (⟨d, .nilchk x, none⟩ :: r) :: k) .normal T H ↔
    (match opNilchk (ev T x) H with | some (v, H') => GoW tbl Q (.ops r :: k) .normal (putD d v T) H' | none => False) := by
  rw [w_op rfl]; rfl
theorem w_mkmap {kl : Nat} : GoW tbl Q (.ops (⟨d, .mkmap kl, none⟩ :: r) :: k) .normal T H ↔
    (match some (AV.map H.nx, H.push (.map kl [] 0)) with | some (v, H') => GoW tbl Q (.ops r :: k) .normal (putD d v T) H' | none => False) := by
  rw [w_op rfl]; rfl
theorem w_mkslice {es bytes : Nat} {z : List AV} {l c : AX} : GoW tbl Q (.ops (⟨d, .mkslice es bytes z l c, none⟩ :: r) :: k) .normal T H ↔
    (match opMkslice es bytes z (ev T l) (ev T c) H with | some (v, H') => GoW tbl Q (.ops r :: k) .normal (putD d v T) H' | none => False) := by
  rw [w_op rfl]; rfl
theorem w_slarr {n es : Nat} {x : AX} {lo hi top : Option AX} : GoW tbl Q (.ops (⟨d, .slarr n es x lo hi top, none⟩ :: r) :: k) .normal T H ↔
    (match opSlarr n es (ev T x) (optE (ev T) lo) (optE (ev T) hi) (optE (ev T) top) H with | some (v, H') => GoW tbl Q (.ops r :: k) .normal (putD d v T) H' | none => False) := by
  rw [w_op rfl]; rfl
theorem w_lookup {kl : Nat} {z : AV} {ok : Bool} {mm kk : AX} : GoW tbl Q (.ops (⟨d, .lookup kl z ok mm kk, none⟩ :: r) :: k) .normal T H ↔
    (match opLookup kl z ok (ev T mm) (ev T kk) H with | some (v, H') => GoW tbl Q (.ops r :: k) .normal (putD d v T) H' | none => False) := by
  rw [w_op rfl]; rfl
theorem w_mapset {kl : Nat} {mm kk v : AX} : GoW tbl Q (.ops (⟨d, .mapset kl mm kk v, none⟩ :: r) :: k) .normal T H ↔
    (match opMapset kl (ev T mm) (ev T kk) (ev T v) H with | some (v, H') => GoW tbl Q (.ops r :: k) .normal (putD d v T) H' | none => False) := by
  rw [w_op rfl]; rfl
theorem w_append {es bytes : Nat} {sl x : AX} : GoW tbl Q (.ops (⟨d, .append es bytes sl x, none⟩ :: r) :: k) .normal T H ↔
    (match appendOp es bytes (ev T sl) (ev T x) H with | some (v, H') => GoW tbl Q (.ops r :: k) .normal (putD d v T) H' | none => False) := by
  rw [w_op rfl]; rfl
theorem w_copy {es : Nat} {dd sl : AX} : GoW tbl Q (.ops (⟨d, .copy es dd sl, none⟩ :: r) :: k) .normal T H ↔
    (match opCopy es (ev T dd) (ev T sl) H with | some (v, H') => GoW tbl Q (.ops r :: k) .normal (putD d v T) H' | none => False) := by
  rw [w_op rfl]; rfl
theorem w_clear {z : List AV} {x : AX} : GoW tbl Q (.ops (⟨d, .clear z x, none⟩ :: r) :: k) .normal T H ↔
    (match opClear z (ev T x) H with | some (v, H') => GoW tbl Q (.ops r :: k) .normal (putD d v T) H' | none => False) := by
  rw [w_op rfl]; rfl
end
end Go.AM
/- Frozen parts: what may be frozen, looked at, forgotten; a call out of its body. -/
namespace Go.AM
open Go

mutual
/-- no number in it -/
def pureV : AV → Bool
  | .undef | .bool _ | .int _ _ | .str _ | .nilptr | .nilsl | .nilmap | .nilfn | .nilif => true
  | .fn _ x y => pureVs x && pureVs y
  | .ifc _ v => pureV v
  | .agg x => pureVs x
  | .tup x => pureVs x
  | .lst _ _ x => pureVs x
  | .fp _ x => pureVs x
  | _ => false
def pureVs : List AV → Bool
  | [] => true
  | v :: r => pureV v && pureVs r
end
theorem pureVs_append {x y : List AV} : pureVs (x ++ y) = (pureVs x && pureVs y) := by
  induction x with
  | nil => rfl
  | cons v x ih => simp [pureVs, ih, Bool.and_assoc]
section
variable {b b0 b2 : NMap} {A A0 A2 : Nat → Prop} {G G0 : AHeap}
mutual
theorem FV.pure (hA : ∀ j, A j → A2 j) : ∀ {v w : AV}, FV b A G v w → pureV v = true → FV b2 A2 G v w
  | _, _, .undef, _ => .undef
  | _, _, .bool x, _ => .bool x
  | _, _, .int k n, _ => .int k n
  | _, _, .str s, _ => .str s
  | _, _, .nilptr, _ => .nilptr
  | _, _, .nilsl, _ => .nilsl
  | _, _, .nilmap, _ => .nilmap
  | _, _, .nilfn, _ => .nilfn
  | _, _, .nilif, _ => .nilif
  | _, _, .ptr .., h => by simp [pureV] at h
  | _, _, .sl .., h => by simp [pureV] at h
  | _, _, .map .., h => by simp [pureV] at h
  | _, _, .yld .., h => by simp [pureV] at h
  | _, _, .fn f x y x' y' h1 h2, h => by simp only [pureV, Bool.and_eq_true] at h; exact .fn _ _ _ _ _ (FVs.pure hA h1 h.1) (FVs.pure hA h2 h.2)
  | _, _, .ifc t v w k, h => by simp only [pureV] at h; exact .ifc _ _ _ (FV.pure hA k h)
  | _, _, .agg x y k, h => by simp only [pureV] at h; exact .agg _ _ (FVs.pure hA k h)
  | _, _, .tup x y k, h => by simp only [pureV] at h; exact .tup _ _ (FVs.pure hA k h)
  | _, _, .lst0 es, _ => .lst0 es
  | _, _, .lstN es j off cap ex l st hA1 hG hr, _ => .lstN es j off cap ex l st (hA _ hA1) hG hr
  | _, _, .lst es n cs j off cap ex l st l' hA1 hG hr hn k, h => by simp only [pureV] at h; exact .lst es n cs j off cap ex l st l' (hA _ hA1) hG hr hn (FVs.pure hA k h)
  | _, _, .fp off cs j base n l st l' hA1 hG hr k, h => by simp only [pureV] at h; exact .fp off cs j base n l st l' (hA _ hA1) hG hr (FVs.pure hA k h)
theorem FVs.pure (hA : ∀ j, A j → A2 j) : ∀ {v w : List AV}, FVs b A G v w → pureVs v = true → FVs b2 A2 G v w
  | _, _, .nil, _ => .nil
  | _, _, .cons v w x y h hs, e => by simp only [pureVs, Bool.and_eq_true] at e; exact .cons _ _ _ _ (FV.pure hA h e.1) (FVs.pure hA hs e.2)
end
mutual
/-- only what the first knows is looked up -/
theorem FV.restrict (hb : ∀ i j, b0 i = some j → b2 i = b i) (hA : ∀ j, A j → A2 j) : ∀ {v w w0 : AV}, FV b A G v w → FV b0 A0 G0 v w0 → FV b2 A2 G v w
  | _, _, _, .undef, _ => .undef
  | _, _, _, .bool x, _ => .bool x
  | _, _, _, .int k n, _ => .int k n
  | _, _, _, .str s, _ => .str s
  | _, _, _, .nilptr, _ => .nilptr
  | _, _, _, .nilsl, _ => .nilsl
  | _, _, _, .nilmap, _ => .nilmap
  | _, _, _, .nilfn, _ => .nilfn
  | _, _, _, .nilif, _ => .nilif
  | _, _, _, .ptr i off j h, k => by cases k with | ptr _ _ j0 h0 => exact .ptr _ _ _ ((hb _ _ h0).trans h)
  | _, _, _, .sl i off len cap es ex j h, k => by cases k with | sl _ _ _ _ _ _ j0 h0 => exact .sl _ _ _ _ _ _ _ ((hb _ _ h0).trans h)
  | _, _, _, .map i j h, k => by cases k with | map _ j0 h0 => exact .map _ _ ((hb _ _ h0).trans h)
  | _, _, _, .yld i j h, k => by cases k with | yld _ j0 h0 => exact .yld _ _ ((hb _ _ h0).trans h)
  | _, _, _, .fn f x y x' y' h1 h2, k => by cases k with | fn _ _ _ x0 y0 k1 k2 => exact .fn _ _ _ _ _ (FVs.restrict hb hA h1 k1) (FVs.restrict hb hA h2 k2)
  | _, _, _, .ifc t v w h, k => by cases k with | ifc _ _ w0 k1 => exact .ifc _ _ _ (FV.restrict hb hA h k1)
  | _, _, _, .agg x y h, k => by cases k with | agg _ y0 k1 => exact .agg _ _ (FVs.restrict hb hA h k1)
  | _, _, _, .tup x y h, k => by cases k with | tup _ y0 k1 => exact .tup _ _ (FVs.restrict hb hA h k1)
  | _, _, _, .lst0 es, _ => .lst0 es
  | _, _, _, .lstN es j off cap ex l st hA1 hG hr, _ => .lstN es j off cap ex l st (hA _ hA1) hG hr
  | _, _, _, .lst es n cs j off cap ex l st l' hA1 hG hr hn h, k => by
    cases k with
    | lst0 => cases h; exact .lst es 0 [] j off cap ex l st [] (hA _ hA1) hG hr hn .nil
    | lstN => cases h with | cons _ w _ y h1 h2 => cases h1; cases h2; exact .lst es 0 [.nilfn] j off cap ex l st _ (hA _ hA1) hG hr hn (.cons _ _ _ _ .nilfn .nil)
    | lst _ _ _ j0 off0 cap0 ex0 l0 st0 l0' _ _ _ _ k1 => exact .lst es n cs j off cap ex l st l' (hA _ hA1) hG hr hn (FVs.restrict hb hA h k1)
  | _, _, _, .fp off cs j base n l st l' hA1 hG hr h, k => by
    cases k with
    | fp _ _ j0 base0 n0 l0 st0 l0' _ _ _ k1 => exact .fp off cs j base n l st l' (hA _ hA1) hG hr (FVs.restrict hb hA h k1)
theorem FVs.restrict (hb : ∀ i j, b0 i = some j → b2 i = b i) (hA : ∀ j, A j → A2 j) : ∀ {v w w0 : List AV}, FVs b A G v w → FVs b0 A0 G0 v w0 → FVs b2 A2 G v w
  | _, _, _, .nil, _ => .nil
  | _, _, _, .cons v w x y h hs, k => by cases k with | cons _ w0 _ y0 k1 k2 => exact .cons _ _ _ _ (FV.restrict hb hA h k1) (FVs.restrict hb hA hs k2)
end
theorem FE.restrict (hb : ∀ i j, b0 i = some j → b2 i = b i) (hA : ∀ j, A j → A2 j) : ∀ {x y y0 : List (AV × AV × Nat)}, FE b A G x y → FE b0 A0 G0 x y0 → FE b2 A2 G x y
  | _, _, _, .nil, _ => .nil
  | _, _, _, .cons k v k' v' n r r' hk hv hr, h => by
    cases h with | cons _ _ k0 v0 _ _ r0 hk0 hv0 hr0 => exact .cons _ _ _ _ _ _ _ (hk.restrict hb hA hk0) (hv.restrict hb hA hv0) (hr.restrict hb hA hr0)
theorem FO.restrict (hb : ∀ i j, b0 i = some j → b2 i = b i) (hA : ∀ j, A j → A2 j) {o u u0 : AObj} (h : FO b A G o u) (k : FO b0 A0 G0 o u0) : FO b2 A2 G o u := by
  cases h with
  | cells x y st h => cases k with | cells _ y0 _ k => exact .cells _ _ _ (h.restrict hb hA k)
  | map kl x y ck h => cases k with | map _ _ y0 _ k => exact .map _ _ _ _ (h.restrict hb hA k)
  | loop st pend T T' ps a c h ha hc => cases k with | loop _ _ _ T0 _ _ _ k => exact .loop _ _ _ _ _ _ _ (fun p => (h p).restrict hb hA (k p)) ha hc
end

/-! from number N on all that is reached is frozen -/
mutual
inductive Frz (N : Nat) (H : AHeap) : AV → AV → Prop where
  | pure (v : AV) (h : pureV v = true) : Frz N H v v
  | nilsl (es : Nat) : Frz N H .nilsl (.lst es 0 [])
  | sl (i off len cap es : Nat) (ex : Bool) (cs : List AV) (st : BSt) (l l2 : List AV) (hi : N ≤ i) (hg : H.get i = some (.cells cs st)) (hr : rangeOf off (len * es) cs = some l) (hn : len ≤ cap) (h : Frzs N H l l2) :
      Frz N H (.sl i off len cap es ex) (.lst es len l2)
  | ptr (i off : Nat) (cs : List AV) (st : BSt) (l2 : List AV) (hi : N ≤ i) (hg : H.get i = some (.cells cs st)) (h : Frzs N H cs l2) : Frz N H (.ptr i off) (.fp off l2)
  | fn (f : Nat) (x y x' y' : List AV) (h1 : Frzs N H x x') (h2 : Frzs N H y y') : Frz N H (.fn f x y) (.fn f x' y')
  | ifc (t : Nat) (v w : AV) (h : Frz N H v w) : Frz N H (.ifc t v) (.ifc t w)
  | agg (x y : List AV) (h : Frzs N H x y) : Frz N H (.agg x) (.agg y)
  | tup (x y : List AV) (h : Frzs N H x y) : Frz N H (.tup x) (.tup y)
inductive Frzs (N : Nat) (H : AHeap) : List AV → List AV → Prop where
  | nil : Frzs N H [] []
  | cons (v w : AV) (x y : List AV) (h : Frz N H v w) (hs : Frzs N H x y) : Frzs N H (v :: x) (w :: y)
end
theorem Frzs.pure {N : Nat} {H : AHeap} : ∀ {x : List AV}, pureVs x = true → Frzs N H x x
  | [], _ => .nil
  | v :: r, h => by simp only [pureVs, Bool.and_eq_true] at h; exact .cons _ _ _ _ (.pure _ h.1) (Frzs.pure h.2)

/-- the frozen blocks: those that were, and those of the objects from N on -/
def AN (N : Nat) (b : NMap) (A : Nat → Prop) (H : AHeap) : Nat → Prop := fun j => A j ∨ ∃ i o, N ≤ i ∧ H.get i = some o ∧ live o = true ∧ b i = some j
section
variable {N : Nat} {b b2 : NMap} {A B : Nat → Prop} {H G : AHeap}
mutual
theorem Frz.fv (hH : FH b A B H G) : ∀ {v v2 w : AV}, Frz N H v v2 → FV b A G v w → FV b2 (AN N b A H) G v2 w
  | _, _, _, .pure v h, k => k.pure (fun _ e => .inl e) h
  | _, _, _, .nilsl es, k => by cases k; exact .lst0 es
  | _, _, _, .sl i off len cap es ex cs st l l2 hi hg hr hn h, k => by
    cases k with
    | sl _ _ _ _ _ _ j hj =>
      obtain ⟨j', u, h1, h2, h3, h4, h5⟩ := hH.obj _ _ hg rfl
      rw [hj] at h1; cases h1
      cases h5 with
      | cells _ y _ hy =>
        obtain ⟨l', k1, k2⟩ := rangeOf_r hy hr
        exact .lst _ _ _ _ _ _ _ _ _ _ (.inr ⟨i, _, hi, hg, rfl, hj⟩) h4 k1 hn (Frzs.fv hH h k2)
  | _, _, _, .ptr i off cs st l2 hi hg h, k => by
    cases k with
    | ptr _ _ j hj =>
      obtain ⟨j', u, h1, h2, h3, h4, h5⟩ := hH.obj _ _ hg rfl
      rw [hj] at h1; cases h1
      cases h5 with
      | cells _ y _ hy =>
        have hf : FVs b2 (AN N b A H) G l2 y := Frzs.fv hH h hy
        have hr : rangeOf 0 y.length y = some y := rangeOf_iff.2 ⟨by omega, by simp⟩
        have := FV.fp off l2 j 0 y.length y st y (.inr ⟨i, _, hi, hg, rfl, hj⟩) h4 hr hf
        rwa [Nat.zero_add] at this
  | _, _, _, .fn f x y x' y' h1 h2, k => by cases k with | fn _ _ _ x0 y0 k1 k2 => exact .fn _ _ _ _ _ (Frzs.fv hH h1 k1) (Frzs.fv hH h2 k2)
  | _, _, _, .ifc t v w h, k => by cases k with | ifc _ _ w0 k1 => exact .ifc _ _ _ (Frz.fv hH h k1)
  | _, _, _, .agg x y h, k => by cases k with | agg _ y0 k1 => exact .agg _ _ (Frzs.fv hH h k1)
  | _, _, _, .tup x y h, k => by cases k with | tup _ y0 k1 => exact .tup _ _ (Frzs.fv hH h k1)
theorem Frzs.fv (hH : FH b A B H G) : ∀ {v v2 w : List AV}, Frzs N H v v2 → FVs b A G v w → FVs b2 (AN N b A H) G v2 w
  | _, _, _, .nil, k => by cases k; exact .nil
  | _, _, _, .cons v w x y h hs, k => by cases k with | cons _ w0 _ y0 k1 k2 => exact .cons _ _ _ _ (Frz.fv hH h k1) (Frzs.fv hH hs k2)
end
theorem AN.alt (hH : FH b A B H G) {j : Nat} (h : AN N b A H j) : j < G.nx ∧ ¬ B j := by
  rcases h with h | ⟨i, o, _, h2, h3, h4⟩
  · exact hH.alt j h
  · obtain ⟨j', u, k1, _, k3, _, _⟩ := hH.obj _ _ h2 h3
    rw [h4] at k1; cases k1
    exact ⟨(hH.dom _ _ h4).2, k3⟩
end

/-- behind a function's end: its own objects are forgotten -/
structure Exit (H0 H H2 : AHeap) : Prop where
  nx : H2.nx = H0.nx
  fre : ∀ i, H0.nx ≤ i → H2.get i = none
  old : ∀ i o, H2.get i = some o → live o = true → (H.get i = some o ∧ H0.get i = some o) ∨ ∃ cs cs2 st, H.get i = some (.cells cs st) ∧ o = .cells cs2 st ∧ Frzs H0.nx H cs cs2
theorem Exit.fh {b0 b : NMap} {A0 A B : Nat → Prop} {H0 H H2 G0 G : AHeap} (h0 : FH b0 A0 B H0 G0) (ke : Ke b0 A0 B G0 b A G) (h : FH b A B H G) (x : Exit H0 H H2) {r r2 w : AV} (hf : Frz H0.nx H r r2) (hr : FV b A G r w) :
    ∃ b2 A2, FH b2 A2 B H2 G ∧ Ke b0 A0 B G0 b2 A2 G ∧ FV b2 A2 G r2 w := by
  have hlt : ∀ {i o}, H2.get i = some o → i < H0.nx := fun {i o} g => Nat.lt_of_not_le fun hi => by rw [x.fre i hi] at g; cases g
  refine ⟨fun i => if i < H0.nx then b i else none, AN H0.nx b A H, ?_, ?_, hf.fv h hr⟩
  · have bb : ∀ {i j}, (if i < H0.nx then b i else none) = some j → i < H0.nx ∧ b i = some j := fun {i j} e => by
      split at e
      · exact ⟨‹_›, e⟩
      · cases e
    refine { dom := fun i j e => ?_, inj := fun i i' j e e' => h.inj _ _ _ (bb e).2 (bb e').2, hfre := fun i hi => x.fre i (by rw [← x.nx]; exact hi), gfre := h.gfre, alt := fun j hj => hj.alt h, blt := h.blt, obj := fun i o g l => ?_ }
    · exact ⟨by rw [x.nx]; exact (bb e).1, (h.dom _ _ (bb e).2).2⟩
    · have hi := hlt g
      have nA : ∀ {j}, b i = some j → ¬ A j → ¬ AN H0.nx b A H j := fun {j} hj hn hc => by
        rcases hc with hc | ⟨i', o', h1, _, _, h4⟩
        · exact hn hc
        · have := h.inj _ _ _ hj h4; omega
      rcases x.old i o g l with ⟨g1, g2⟩ | ⟨cs, cs2, st, g1, rfl, g2⟩
      · obtain ⟨j, u, k1, k2, k3, k4, k5⟩ := h.obj _ _ g1 l
        obtain ⟨j0, u0, _, _, _, _, m5⟩ := h0.obj _ _ g2 l
        refine ⟨j, u, by rw [if_pos hi]; exact k1, nA k1 k2, k3, k4, k5.restrict (fun i j e => ?_) (fun _ e => .inl e) m5⟩
        rw [if_pos (h0.dom _ _ e).1]
      · obtain ⟨j, u, k1, k2, k3, k4, k5⟩ := h.obj _ _ g1 rfl
        cases k5 with
        | cells _ y _ hy => exact ⟨j, _, by rw [if_pos hi]; exact k1, nA k1 k2, k3, k4, .cells _ _ _ (g2.fv h hy)⟩
  · refine ⟨⟨fun i j e => ?_, fun j e => .inl (ke.mo.sub j e), ke.mo.keep⟩, ke.nx, ke.by_, fun i j e => ?_⟩
    · rw [if_pos (h0.dom _ _ e).1]; exact ke.mo.ext _ _ e
    · split at e
      · exact ke.new i j e
      · cases e

/-- what holds behind a function's end -/
def Fin (H0 : AHeap) (r : AV) (H : AHeap) (P : AV → AHeap → Prop) : Prop := P r H ∨ ∃ r2 H2, Exit H0 H H2 ∧ Frz H0.nx H r r2 ∧ P r2 H2

section
variable {tbl : Nat → Option AFn} {H : AHeap} {P : AV → AHeap → Prop}
theorem resRun_r {b : NMap} {A B : Nat → Prop} {H G : AHeap} (h : FH b A B H G) {T T' : Fr} (hT : FT b A G T T') : ∀ {rs : List ARes} {vs : List AV}, resRun rs T H = some vs → ∃ vs', resRun rs T' G = some vs' ∧ FVs b A G vs vs' := by
  intro rs
  induction rs with
  | nil => intro vs e; cases e; exact ⟨[], rfl, .nil⟩
  | cons x rs ih =>
    intro vs e
    cases x with
    | t p =>
      simp only [resRun] at e ⊢
      split at e <;> cases e
      rename_i vs hvs
      obtain ⟨vs', h1, h2⟩ := ih hvs
      rw [h1]
      exact ⟨_, rfl, .cons _ _ _ _ (hT p) h2⟩
    | cell p ag n =>
      simp only [resRun] at e ⊢
      have hp := hT p
      generalize Fr.at_ T p = v at e hp
      generalize Fr.at_ T' p = w at hp
      split at e <;> first | (cases e; done) | skip
      cases hp with
      | ptr _ _ j hj =>
        split at e <;> first | (cases e; done) | skip
        rename_i cs hcs
        obtain ⟨cs', h1, h2⟩ := load_r h hj hcs
        split at e <;> first | (cases e; done) | skip
        rename_i u hu
        obtain ⟨u', h3, h4⟩ := mkVal_r h2 hu
        split at e <;> cases e
        rename_i vs hvs
        obtain ⟨vs', h5, h6⟩ := ih hvs
        simp only [h1, h3, h5]
        exact ⟨_, rfl, .cons _ _ _ _ h4 h6⟩
theorem oneOrTup_r {b : NMap} {A : Nat → Prop} {G : AHeap} {x y : List AV} (h : FVs b A G x y) : FV b A G (oneOrTup x) (oneOrTup y) := by
  cases h with
  | nil => exact .tup _ _ .nil
  | cons v w x y h hs =>
    cases hs with
    | nil => exact h
    | cons v2 w2 x y h2 hs => exact .tup _ _ (.cons _ _ _ _ h (.cons _ _ _ _ h2 hs))
/-- a call, out of its body -/
theorem call_ofV {f : Nat} {fn : AFn} {args : List AV} (hf : tbl f = some fn) (ok : okC fn.body = true)
    (h : GoS tbl [.code fn.body] .normal (frameOf 0 args .leaf) H fun e T' H' => (∀ i, e ≠ .exit i) ∧ ∃ vs, resRun fn.results T' H' = some vs ∧ Fin H (oneOrTup vs) H' P) : CallV tbl f args H P := by
  intro b A B G args' hH ha
  refine call_of hf ((h b A B G _ _ hH (FT.frameOf ha FT.leaf) (.plain _ (by simp only [okK, ok, Bool.and_self]))).mono ?_)
  rintro e T' G2 ⟨b2, A2, T2, H2, g1, g2, g3, g4, vs, g5, g6⟩
  obtain ⟨vs', k1, k2⟩ := resRun_r g1 g3 g5
  refine ⟨g4, vs', k1, ?_⟩
  have k3 := oneOrTup_r k2
  rcases g6 with g6 | ⟨r2, H3, g6, g7, g8⟩
  · exact ⟨b2, A2, _, H2, g1, g2, k3, g6⟩
  · obtain ⟨b3, A3, m1, m2, m3⟩ := g6.fh hH g2 g1 g7 k3
    exact ⟨b3, A3, r2, H3, m1, m2, m3, g8⟩

/-- a call that freezes nothing -/
def CallF (tbl : Nat → Option AFn) (f : Nat) (args : List AV) (H : AHeap) (P : AV → AHeap → Prop) : Prop :=
  ∀ b A B G args', FH b A B H G → FVs b A G args args' → CallA tbl f args' G fun r' G2 => ∃ b2 r H2, FH b2 A B H2 G2 ∧ Ke b A B G b2 A G2 ∧ FV b2 A G2 r r' ∧ P r H2
/-- what a call made is frozen behind it -/
theorem CallV.fin {f : Nat} {args : List AV} (h : CallV tbl f args H fun r H' => Fin H r H' P) : CallV tbl f args H P := by
  intro b A B G args' hH ha
  refine (h b A B G args' hH ha).mono ?_
  rintro r' G2 ⟨b2, A2, r, H2, g1, g2, g3, g4⟩
  rcases g4 with g4 | ⟨r2, H3, g6, g7, g8⟩
  · exact ⟨b2, A2, r, H2, g1, g2, g3, g4⟩
  · obtain ⟨b3, A3, m1, m2, m3⟩ := g6.fh hH g2 g1 g7 g3
    exact ⟨b3, A3, r2, H3, m1, m2, m3, g8⟩
/-- arguments that are only looked at -/
theorem CallF.view {f : Nat} {args args2 : List AV} (hv : Frzs 0 H args args2) {P0 : AV → AHeap → Prop} {P1 : AV → Prop} (h : CallV tbl f args2 AHeap.empty P0) (hp : ∀ r H', P0 r H' → closedV r = true ∧ P1 r) :
    CallF tbl f args H fun r H2 => P1 r ∧ H2 = H := by
  intro b A B G args' hH ha
  have hE : FH (fun _ => none) (AN 0 b A H) B AHeap.empty G :=
    { dom := fun i j e => by cases e
      inj := fun i i' j e => by cases e
      hfre := fun i _ => by simp [AHeap.get, AHeap.empty, Tr.get_leaf]
      gfre := hH.gfre, alt := fun j hj => hj.alt hH, blt := hH.blt
      obj := fun i o g => by simp [AHeap.get, AHeap.empty, Tr.get_leaf] at g }
  refine (h _ _ B G args' hE (hv.fv hH ha)).mono ?_
  rintro r' G2 ⟨b2, A2, r, H2, g1, g2, g3, g4⟩
  obtain ⟨hc, h1⟩ := hp _ _ g4
  have hr := g3.closed_eq hc
  subst hr
  have mo : Mo b A G b A G2 := ⟨fun _ _ e => e, fun _ e => e, fun j e => g2.mo.keep j (.inl e)⟩
  refine ⟨b, r', H, ?_, ⟨mo, g2.nx, g2.by_, fun _ _ e => .inl e⟩, FV.closed hc, h1, rfl⟩
  have nx := g2.nx
  exact { dom := fun i j e => ⟨(hH.dom _ _ e).1, Nat.lt_of_lt_of_le (hH.dom _ _ e).2 nx⟩, inj := hH.inj, hfre := hH.hfre, gfre := g1.gfre
          alt := fun j e => ⟨Nat.lt_of_lt_of_le (hH.alt j e).1 nx, (hH.alt j e).2⟩, blt := fun j e => Nat.lt_of_lt_of_le (hH.blt j e) nx
          obj := fun i o g l => by
            obtain ⟨j, u, k1, k2, k3, k4, k5⟩ := hH.obj i o g l
            exact ⟨j, u, k1, k2, k3, (g2.mo.keep j (.inr ⟨i, o, Nat.zero_le _, g, l, k1⟩)).trans k4, k5.mono mo⟩ }

/-- an empty frozen list is nil, or it is not -/
theorem CallV.empty {f es : Nat} {pre post : List AV} (h1 : CallV tbl f (pre ++ .nilsl :: post) H P) (h2 : CallV tbl f (pre ++ .lst es 0 [.nilfn] :: post) H P) : CallV tbl f (pre ++ .lst es 0 [] :: post) H P := by
  intro b A B G args' hH ha
  have key : FVs b A G (pre ++ .nilsl :: post) args' ∨ FVs b A G (pre ++ .lst es 0 [.nilfn] :: post) args' := by
    clear h1 h2
    induction pre generalizing args' with
    | nil =>
      cases ha with
      | cons _ w _ y h hs =>
        cases h with
        | lst0 => exact .inl (.cons _ _ _ _ .nilsl hs)
        | lst _ _ _ j off cap ex l st l' hA hG hr hn k =>
          cases k
          rw [Nat.zero_mul] at hr
          exact .inr (.cons _ _ _ _ (.lstN es j off cap ex l st hA hG hr) hs)
    | cons v pre ih =>
      cases ha with
      | cons _ w _ y h hs =>
        rcases ih _ hs with k | k
        · exact .inl (.cons _ _ _ _ h k)
        · exact .inr (.cons _ _ _ _ h k)
  rcases key with k | k
  · exact h1 b A B G args' hH k
  · exact h2 b A B G args' hH k

theorem CallF.callV {f : Nat} {args : List AV} (h : CallF tbl f args H P) : CallV tbl f args H P := fun b A B G args' hH ha =>
  (h b A B G args' hH ha).mono fun _ _ ⟨b2, r, H2, g1, g2, g3, g4⟩ => ⟨b2, A, r, H2, g1, g2, g3, g4⟩
theorem CallF.mono {f : Nat} {args : List AV} {P' : AV → AHeap → Prop} (h : CallF tbl f args H P) (hp : ∀ r H, P r H → P' r H) : CallF tbl f args H P' := fun b A B G args' hH ha =>
  (h b A B G args' hH ha).mono fun _ _ ⟨b2, r, H2, g1, g2, g3, g4⟩ => ⟨b2, r, H2, g1, g2, g3, hp _ _ g4⟩
theorem CallV.view {f : Nat} {args args2 : List AV} (hv : Frzs 0 H args args2) {P0 : AV → AHeap → Prop} {P1 : AV → Prop} (h : CallV tbl f args2 AHeap.empty P0) (hp : ∀ r H', P0 r H' → closedV r = true ∧ P1 r) :
    CallV tbl f args H fun r H2 => P1 r ∧ H2 = H := (CallF.view hv h hp).callV
section
variable {k : List KI} {T : Fr} {Q : AExit → Fr → AHeap → Prop}
theorem GoS.callF {d : Option (List Bool)} {f : Nat} {a : List AX} {r : List AOper} (h : CallF tbl f (evs (ev T) a) H fun v H' => GoS tbl (.ops r :: k) .normal (putD d v T) H' Q) :
    GoS tbl (.ops (⟨d, .call f a, none⟩ :: r) :: k) .normal T H Q := by
  intro b A B G T' k' hH hT hK
  obtain ⟨k', rfl, ok, hK⟩ := hK.ops_inv
  simp only [okOps, okOp, Bool.and_eq_true] at ok
  refine go_call_of ((h b A B G _ hH (evs_r hT.ev ok.1)).mono ?_)
  rintro r' G2 ⟨b2, v, H2, g1, g2, g3, g4⟩
  exact (g4 b2 A B G2 _ _ g1 ((hT.mono g2.mo).putD g3 d) (.ops _ _ _ ok.2 (hK.mono0 g2.mo))).then_ g2
theorem GoS.callvF {d : Option (List Bool)} {x : AX} {a : List AX} {r : List AOper} {f : Nat} {first cap : List AV} (hx : ev T x = .fn f first cap)
    (h : CallF tbl f (first ++ (evs (ev T) a ++ cap)) H fun v H' => GoS tbl (.ops r :: k) .normal (putD d v T) H' Q) :
    GoS tbl (.ops (⟨d, .callv x a, none⟩ :: r) :: k) .normal T H Q := by
  intro b A B G T' k' hH hT hK
  obtain ⟨k', rfl, ok, hK⟩ := hK.ops_inv
  simp only [okOps, okOp, Bool.and_eq_true] at ok
  have hv := hT.ev x ok.1.1
  rw [hx] at hv
  generalize hw : ev T' x = w at hv
  cases hv with
  | fn _ _ _ x' y' h1 h2 =>
      refine go_callv_of hw ((h b A B G _ hH (h1.append ((evs_r hT.ev ok.1.2).append h2))).mono ?_)
      rintro r' G2 ⟨b2, v, H2, g1, g2, g3, g4⟩
      exact (g4 b2 A B G2 _ _ g1 ((hT.mono g2.mo).putD g3 d) (.ops _ _ _ ok.2 (hK.mono0 g2.mo))).then_ g2
end

/-! one object is frozen: wherever it is told -/
mutual
inductive Fz1 (i : Nat) (cs : List AV) : AV → AV → Prop where
  | same (v : AV) : Fz1 i cs v v
  | sl (off len cap es : Nat) (ex : Bool) (l : List AV) (hr : rangeOf off (len * es) cs = some l) (hn : len ≤ cap) : Fz1 i cs (.sl i off len cap es ex) (.lst es len l)
  | ptr (off : Nat) : Fz1 i cs (.ptr i off) (.fp off cs)
  | fn (f : Nat) (x y x' y' : List AV) (h1 : Fz1s i cs x x') (h2 : Fz1s i cs y y') : Fz1 i cs (.fn f x y) (.fn f x' y')
  | agg (x y : List AV) (h : Fz1s i cs x y) : Fz1 i cs (.agg x) (.agg y)
inductive Fz1s (i : Nat) (cs : List AV) : List AV → List AV → Prop where
  | nil : Fz1s i cs [] []
  | cons (v w : AV) (x y : List AV) (h : Fz1 i cs v w) (hs : Fz1s i cs x y) : Fz1s i cs (v :: x) (w :: y)
end
section
variable {b : NMap} {A B : Nat → Prop} {G : AHeap} {i j : Nat} {cs y : List AV} {st : BSt} (hj : b i = some j) (hg : G.get j = some (.cells y st)) (hy : FVs b A G cs y)
include hj hg hy
mutual
theorem Fz1.fv : ∀ {v v2 w : AV}, Fz1 i cs v v2 → FV b A G v w → FV b (fun q => A q ∨ q = j) G v2 w
  | _, _, _, .same v, k => k.mono ⟨fun _ _ e => e, fun _ e => .inl e, fun _ _ => rfl⟩
  | _, _, _, .sl off len cap es ex l hr hn, k => by
    cases k with
    | sl _ _ _ _ _ _ j' hj' =>
      rw [hj] at hj'; cases hj'
      obtain ⟨l', k1, k2⟩ := rangeOf_r hy hr
      exact .lst _ _ _ _ _ _ _ _ _ _ (.inr rfl) hg k1 hn (k2.mono ⟨fun _ _ e => e, fun _ e => .inl e, fun _ _ => rfl⟩)
  | _, _, _, .ptr off, k => by
    cases k with
    | ptr _ _ j' hj' =>
      rw [hj] at hj'; cases hj'
      have hr : rangeOf 0 y.length y = some y := rangeOf_iff.2 ⟨by omega, by simp⟩
      have := FV.fp (b := b) (A := fun q => A q ∨ q = j) off cs j 0 y.length y st y (.inr rfl) hg hr (hy.mono ⟨fun _ _ e => e, fun _ e => .inl e, fun _ _ => rfl⟩)
      rwa [Nat.zero_add] at this
  | _, _, _, .fn f x y x' y' h1 h2, k => by cases k with | fn _ _ _ x0 y0 k1 k2 => exact .fn _ _ _ _ _ (Fz1s.fv h1 k1) (Fz1s.fv h2 k2)
  | _, _, _, .agg x y h, k => by cases k with | agg _ y0 k1 => exact .agg _ _ (Fz1s.fv h k1)
theorem Fz1s.fv : ∀ {v v2 w : List AV}, Fz1s i cs v v2 → FVs b A G v w → FVs b (fun q => A q ∨ q = j) G v2 w
  | _, _, _, .nil, k => by have _ := hj; have _ := hg; have _ := hy; cases k; exact .nil
  | _, _, _, .cons v w x y h hs, k => by cases k with | cons _ w0 _ y0 k1 k2 => exact .cons _ _ _ _ (Fz1.fv h k1) (Fz1s.fv hs k2)
end
end
/-- no region under way -/
def noD : List KI → Bool
  | .drw .. :: _ => false
  | .ops _ :: .drw .. :: _ => false
  | _ => true
theorem FK.noD {b : NMap} {A : Nat → Prop} {G : AHeap} {k k' : List KI} (h : FK b A G k k') (hn : noD k = true) : k' = k ∧ okK k = true := by
  cases h with
  | plain k ok => exact ⟨rfl, ok⟩
  | ops l k k' ok h =>
    cases h with
    | plain k ok2 => exact ⟨rfl, by simp only [okK, ok, ok2, Bool.and_self]⟩
    | drw => cases hn
  | drw => cases hn
theorem GoS.freeze {k : List KI} (hn : noD k = true) {e : AExit} {T T2 : Fr} {Q : AExit → Fr → AHeap → Prop} {i : Nat} {cs : List AV} {st : BSt} (hi : H.get i = some (.cells cs st)) (hT : ∀ p, Fz1 i cs (Fr.at_ T p) (Fr.at_ T2 p))
    (h : GoS tbl k e T2 (H.put i .gone) Q) : GoS tbl k e T H Q := by
  intro b A B G T' k' hH hTT hK
  obtain ⟨j, u, k1, k2, k3, k4, k5⟩ := hH.obj _ _ hi rfl
  cases k5 with
  | cells _ y _ hy =>
    have mo : Mo b A G b (fun q => A q ∨ q = j) G := ⟨fun _ _ e => e, fun _ e => .inl e, fun _ _ => rfl⟩
    have ke : Ke b A B G b (fun q => A q ∨ q = j) G := ⟨mo, Nat.le_refl _, fun _ _ => rfl, fun _ _ e => .inl e⟩
    have hd := hH.dom _ _ k1
    have hH2 : FH b (fun q => A q ∨ q = j) B (H.put i .gone) G :=
      { dom := hH.dom, inj := hH.inj
        hfre := fun q hq => by simp at hq; rw [get_put_ne _ _ _ _ (by omega)]; exact hH.hfre q hq
        gfre := hH.gfre
        alt := fun q hq => by
          rcases hq with hq | rfl
          · exact hH.alt q hq
          · exact ⟨hd.2, k3⟩
        blt := hH.blt
        obj := fun q o g l => by
          by_cases eq : i = q
          · subst eq; rw [get_put_same] at g; cases g; cases l
          · rw [get_put_ne _ _ _ _ eq] at g
            obtain ⟨j2, u2, m1, m2, m3, m4, m5⟩ := hH.obj q o g l
            refine ⟨j2, u2, m1, fun hc => ?_, m3, m4, m5.mono mo⟩
            rcases hc with hc | rfl
            · exact m2 hc
            · exact eq (hH.inj _ _ _ k1 m1) }
    obtain ⟨rfl, ok⟩ := hK.noD hn
    exact (h b _ B G T' _ hH2 (fun p => (hT p).fv k1 k4 hy (hTT p)) (.plain _ ok)).then_ ke
/-- one slot -/
theorem fz1_set {i : Nat} {cs : List AV} {T : Fr} {q : Nat} {v : AV} (h : Fz1 i cs (gN T q) v) : ∀ p, Fz1 i cs (Fr.at_ T p) (Fr.at_ (sN T q v) p) := fun p => by
  by_cases e : path q = p
  · subst e
    show Fz1 i cs (gN T q) (gN (sN T q v) q)
    rw [gN_sN, if_pos rfl]; exact h
  · have : Fr.at_ (sN T q v) p = Fr.at_ T p := at_set_ne _ _ _ _ e
    rw [this]; exact .same _
theorem fz1_set2 {i : Nat} {cs : List AV} {T T2 : Fr} (hT : ∀ p, Fz1 i cs (Fr.at_ T p) (Fr.at_ T2 p)) {q : Nat} {v : AV} (h : Fz1 i cs (gN T q) v) : ∀ p, Fz1 i cs (Fr.at_ T p) (Fr.at_ (sN T2 q v) p) := fun p => by
  by_cases e : path q = p
  · subst e
    show Fz1 i cs (gN T q) (gN (sN T2 q v) q)
    rw [gN_sN, if_pos rfl]; exact h
  · have : Fr.at_ (sN T2 q v) p = Fr.at_ T2 p := at_set_ne _ _ _ _ e
    rw [this]; exact hT p
end
end Go.AM
/- A whole run goes alike on both sides. -/
namespace Go.AM
open Go

structure RS (R : Rec) (A B : Nat → Prop) : Prop where
  call : ∀ f args H r H2, R.call f args H = some (r, H2) → ∀ b G args', FH b A B H G → FVs b A G args args' → ∃ r' b2 G2, R.call f args' G = some (r', G2) ∧ FH b2 A B H2 G2 ∧ Ke b A B G b2 A G2 ∧ FV b2 A G2 r r'
  yld : ∀ i args H r H2, R.yld i args H = some (r, H2) → ∀ b G args' j, FH b A B H G → FVs b A G args args' → b i = some j → ∃ r' b2 G2, R.yld j args' G = some (r', G2) ∧ FH b2 A B H2 G2 ∧ Ke b A B G b2 A G2 ∧ FV b2 A G2 r r'
  loop : ∀ a T H e T2 H2, R.loop a T H = some (e, T2, H2) → ∀ b G T', okC a = true → FH b A B H G → FT b A G T T' → ∃ T2' b2 G2, R.loop a T' G = some (e, T2', G2) ∧ FH b2 A B H2 G2 ∧ Ke b A B G b2 A G2 ∧ FT b2 A G2 T2 T2'

section
variable {R : Rec} {A B : Nat → Prop} (rs : RS R A B)
include rs
theorem oper1_s {b : NMap} {H G : AHeap} {T T' : Fr} (hH : FH b A B H G) (hT : FT b A G T T') {op : AOp} (ok : okOp op = true) {v : AV} {H2 : AHeap} (e : oper1 R op T H = some (v, H2)) :
    ∃ w b2 G2, oper1 R op T' G = some (w, G2) ∧ FH b2 A B H2 G2 ∧ Ke b A B G b2 A G2 ∧ FV b2 A G2 v w := by
  cases op
  case call f args => simp only [okOp] at ok; exact rs.call _ _ _ _ _ e _ _ _ hH (evs_r hT.ev ok)
  case callv x args =>
    simp only [okOp, Bool.and_eq_true] at ok
    simp only [oper1] at e ⊢
    have hv := hT.ev x ok.1
    unfold callV at e
    split at e
    · rename_i f first cap hx
      rw [hx] at hv
      generalize hw : ev T' x = w at hv
      cases hv with
      | fn _ _ _ x' y' h1 h2 => simp only [callV]; exact rs.call _ _ _ _ _ e _ _ _ hH (h1.append ((evs_r hT.ev ok.2).append h2))
    · rename_i i hx
      rw [hx] at hv
      generalize hw : ev T' x = w at hv
      cases hv with
      | yld _ j hj => simp only [callV]; exact rs.yld _ _ _ _ _ e _ _ _ _ hH (evs_r hT.ev ok.2) hj
    · cases e
  all_goals exact evalOp_r hT.ev hH ok v H2 e
theorem operRun_s {b : NMap} {H G : AHeap} {T T' : Fr} (hH : FH b A B H G) (hT : FT b A G T T') {o : AOper} (ok : okOp o.op = true) {T2 : Fr} {H2 : AHeap} (e : operRun R o T H = some (T2, H2)) :
    ∃ T2' b2 G2, operRun R o T' G = some (T2', G2) ∧ FH b2 A B H2 G2 ∧ Ke b A B G b2 A G2 ∧ FT b2 A G2 T2 T2' := by
  unfold operRun at e ⊢
  rw [wants_eq hT]
  split at e
  · split at e <;> cases e
    rename_i v ho
    obtain ⟨w, b2, G2, g1, g2, g3, g4⟩ := oper1_s rs hH hT ok ho
    rw [g1]
    exact ⟨_, b2, G2, rfl, g2, g3, (hT.mono g3.mo).putD g4 _⟩
  · cases e
    exact ⟨_, b, G, rfl, hH, Ke.refl .., hT.putD (.tup _ _ .nil) _⟩
  · cases e
theorem opsRun_s : ∀ {l : List AOper} {b : NMap} {H G : AHeap} {T T' : Fr}, FH b A B H G → FT b A G T T' → okOps l = true → ∀ {T2 : Fr} {H2 : AHeap}, opsRun R l T H = some (T2, H2) →
    ∃ T2' b2 G2, opsRun R l T' G = some (T2', G2) ∧ FH b2 A B H2 G2 ∧ Ke b A B G b2 A G2 ∧ FT b2 A G2 T2 T2' := by
  intro l
  induction l with
  | nil => intro b H G T T' hH hT _ T2 H2 e; cases e; exact ⟨_, b, G, rfl, hH, Ke.refl .., hT⟩
  | cons o l ih =>
    intro b H G T T' hH hT ok T2 H2 e
    simp only [okOps, Bool.and_eq_true] at ok
    simp only [opsRun] at e ⊢
    split at e <;> first | (cases e; done) | skip
    rename_i T1 H1 ho
    obtain ⟨T1', b1, G1, g1, g2, g3, g4⟩ := operRun_s rs hH hT ok.1 ho
    obtain ⟨T2', b2, G2, k1, k2, k3, k4⟩ := ih g2 g4 ok.2 e
    rw [g1]
    exact ⟨T2', b2, G2, k1, k2, g3.trans k3, k4⟩


omit rs in
theorem rcds_tr {b2 : NMap} {Hs Ks : List AHeap} {r1 r2 : List Rcd} (hs : L2 (Pas b2) Hs Ks) (hr : L2 (RecR b2) r1 r2) : rcdsOk Hs r1 = true → rcdsOk Ks r2 = true := by
  induction hr with
  | nil => exact fun _ => rfl
  | cons a c x y h _ ih =>
    intro e
    simp only [rcdsOk, Bool.and_eq_true] at e ⊢
    refine ⟨?_, ih e.2⟩
    have e2 := e.1
    rw [stagesOk_iff] at e2 ⊢
    intro q s hs1 hl hh
    obtain ⟨H1, g1, b1, A1, g2, g3⟩ := hs.get hs1
    rw [h.lohi.1] at hl
    rw [h.lohi.2] at hh
    exact h.ok g3 (fun i j k e1 e3 => by rw [g2 i j e1] at e3; cases e3; rfl) (e2 q H1 g1 hl hh)
omit rs in
theorem rcdOf_s (hA : ∀ j, ¬ A j) {b : NMap} {H G : AHeap} {T T' : Fr} (hH : FH b A B H G) (hT : FT b A G T T') {o : AOper} (ok : okOp o.op = true) {s : Fr × AHeap} (e : operRun R o T H = some s) (lo hi : Nat) :
    L2 (RecR b) (rcdOf lo hi o T H) (rcdOf lo hi o T' G) := by
  unfold rcdOf
  rw [wants_eq hT]
  unfold operRun at e
  cases hw : wants o.guard T with
  | none => exact .nil
  | some c =>
    cases c with
    | false => exact .nil
    | true =>
      rw [hw] at e
      obtain ⟨dd, op, gg⟩ := o
      cases op
      case load x ag n =>
        simp only at ok e ⊢
        have hx := hT.ev x (by simpa [okOp] using ok)
        simp only [oper1, evalOp] at e
        generalize hv : ev T x = v at hx e
        generalize hw' : ev T' x = w at hx
        cases hx with
        | ptr i off j hj =>
          simp only [opLoad] at e ⊢
          cases hlo : H.load i off n with
          | none => rw [hlo] at e; cases e
          | some l1 =>
            obtain ⟨l2, h1, h2⟩ := load_r hH hj hlo
            simp only [h1]
            exact .cons _ _ _ _ (.cells _ _ _ _ _ _ _ _ hj b A G (fun _ _ e => e) h2) .nil
        | fp off cs j base m lc st l' hA' hG hr kk => exact (hA _ hA').elim
        | _ => exact .nil
      all_goals exact .nil
theorem drawRun_s (hA : ∀ j, ¬ A j) : ∀ {l : List (DK × AOper)} {b : NMap} {H G : AHeap} {T T' : Fr} {prev prev' : Option Nat} {ids ids' : List Nat}, FH b A B H G → FT b A G T T' → okDs l = true → Pr b prev prev' → L2 (fun i j => b i = some j) ids ids' →
    ∀ {r : DRes}, drawRun R prev ids l T H = some r → ∃ r' b2, drawRun R prev' ids' l T' G = some r' ∧ FH b2 A B r.H r'.H ∧ Ke b A B G b2 A r'.H ∧ FT b2 A r'.H r.T r'.T ∧
      L2 (Pas b2) r.Gs r'.Gs ∧ L2 (RecR b2) r.rs r'.rs := by
  intro l
  induction l with
  | nil =>
    intro b H G T T' prev prev' ids ids' hH hT _ _ _ r e
    cases e
    exact ⟨{ T := T', H := G, Gs := [G], rs := [] }, b, rfl, hH, Ke.refl .., hT, .cons _ _ _ _ ⟨b, A, fun _ _ e => e, hH.hobj⟩ .nil, .nil⟩
  | cons x l ih =>
    intro b H G T T' prev prev' ids ids' hH hT ok hp hi r e
    obtain ⟨d, o⟩ := x
    simp only [okDs, Bool.and_eq_true] at ok
    have pri : ∀ {b2 : NMap} {G2 : AHeap}, Ke b A B G b2 A G2 → Pr b2 prev prev' := fun ke i e => let ⟨j, h1, h2⟩ := hp i e; ⟨j, h1, ke.mo.ext _ _ h2⟩
    have idi : ∀ {b2 : NMap} {G2 : AHeap}, Ke b A B G b2 A G2 → L2 (fun i j => b2 i = some j) ids ids' := fun ke => hi.imp fun _ _ e => ke.mo.ext _ _ e
    cases d with
    | pre lo hi' =>
      cases hi with
      | nil => simp [drawRun] at e
      | cons id id' ids ids' hid hids =>
        simp only [drawRun] at e ⊢
        exact ih hH (hT.putD (.ptr _ _ _ hid) o.dst) ok.2 hp hids e
    | e =>
      simp only [drawRun] at e ⊢
      split at e <;> first | (cases e; done) | skip
      rename_i s ho
      obtain ⟨T1, H1⟩ := s
      obtain ⟨T1', b1, G1, g1, g2, g3, g4⟩ := operRun_s rs hH hT ok.1 ho
      unfold DRes.stage at e
      split at e <;> cases e
      rename_i r hr
      obtain ⟨r', b2, k1, k2, k3, k4, k5, k6⟩ := ih g2 g4 ok.2 (fun i e => let ⟨j, h1, h2⟩ := storeId_r hT ok.1 i e; ⟨j, h1, g3.mo.ext _ _ h2⟩) (idi g3) hr
      rw [g1]
      simp only [k1, DRes.stage]
      exact ⟨_, b2, rfl, k2, g3.trans k3, k4, .cons _ _ _ _ ⟨b, A, fun i j e => (g3.trans k3).mo.ext _ _ e, hH.hobj⟩ k5, k6⟩
    | e2 =>
      simp only [drawRun] at e ⊢
      split at e <;> first | (cases e; done) | skip
      rename_i hdf
      have hdf' : differ prev' (storeId o T') = true := by
        unfold differ at hdf
        split at hdf <;> first | (cases hdf; done) | skip
        rename_i i j e1
        obtain ⟨i', h1, h2⟩ := hp i rfl
        obtain ⟨j', h3, h4⟩ := storeId_r hT ok.1 j e1
        rw [h1, h3]
        simp only [differ]
        cases hb : Nat.beq i' j' with
        | false => rfl
        | true =>
          have := Nat.eq_of_beq_eq_true hb
          subst this
          have := hH.inj _ _ _ h2 h4
          subst this
          simp at hdf
      rw [if_pos hdf']
      split at e <;> first | (cases e; done) | skip
      rename_i s ho
      obtain ⟨T1, H1⟩ := s
      obtain ⟨T1', b1, G1, g1, g2, g3, g4⟩ := operRun_s rs hH hT ok.1 ho
      unfold DRes.stage at e
      split at e <;> cases e
      rename_i r hr
      obtain ⟨r', b2, k1, k2, k3, k4, k5, k6⟩ := ih (prev' := none) g2 g4 ok.2 (fun i e => by cases e) (idi g3) hr
      rw [g1]
      simp only [k1, DRes.stage]
      exact ⟨_, b2, rfl, k2, g3.trans k3, k4, .cons _ _ _ _ ⟨b, A, fun i j e => (g3.trans k3).mo.ext _ _ e, hH.hobj⟩ k5, k6⟩
    | l lo hi' =>
      simp only [drawRun] at e ⊢
      split at e <;> first | (cases e; done) | skip
      rename_i s ho
      have hrc := rcdOf_s hA hH hT ok.1 ho lo hi'
      obtain ⟨T1, H1⟩ := s
      obtain ⟨T1', b1, G1, g1, g2, g3, g4⟩ := operRun_s rs hH hT ok.1 ho
      unfold DRes.note at e
      split at e <;> cases e
      rename_i r hr
      obtain ⟨r', b2, k1, k2, k3, k4, k5, k6⟩ := ih g2 g4 ok.2 (pri g3) (idi g3) hr
      rw [g1]
      simp only [k1, DRes.note]
      refine ⟨_, b2, rfl, k2, g3.trans k3, k4, k5, ?_⟩
      have hh : L2 (RecR b2) (if Nat.beq lo hi' then [] else rcdOf lo hi' o T H) (if Nat.beq lo hi' then [] else rcdOf lo hi' o T' G) := by
        split
        · exact .nil
        · exact hrc.imp fun _ _ h => h.mono fun i j e => (g3.trans k3).mo.ext _ _ e
      exact hh.append k6
    | p =>
      simp only [drawRun] at e ⊢
      split at e <;> first | (cases e; done) | skip
      rename_i s ho
      obtain ⟨T1, H1⟩ := s
      obtain ⟨T1', b1, G1, g1, g2, g3, g4⟩ := operRun_s rs hH hT ok.1 ho
      obtain ⟨r', b2, k1, k2, k3, k4, k5, k6⟩ := ih g2 g4 ok.2 (pri g3) (idi g3) e
      rw [g1]
      exact ⟨r', b2, k1, k2, g3.trans k3, k4, k5, k6⟩
theorem regionDraw_s (hA : ∀ j, ¬ A j) {l : List (DK × AOper)} {b : NMap} {H G : AHeap} {T T' : Fr} (hH : FH b A B H G) (hT : FT b A G T T') (ok : okDs l = true) {T2 : Fr} {H2 : AHeap} (e : regionDraw R l T H = some (T2, H2)) :
    ∃ T2' b2 G2, regionDraw R l T' G = some (T2', G2) ∧ FH b2 A B H2 G2 ∧ Ke b A B G b2 A G2 ∧ FT b2 A G2 T2 T2' := by
  unfold regionDraw at e ⊢
  split at e <;> first | (cases e; done) | skip
  rename_i s hs
  obtain ⟨b1, s', g1, g2, g3, g4, g5⟩ := preRun_r hH ok hs
  rw [g1]
  unfold drawEnd at e
  split at e <;> first | (cases e; done) | skip
  rename_i r hr
  split at e <;> cases e
  rename_i hrc
  rw [Bool.and_eq_true] at hrc
  obtain ⟨r', b2, k1, k2, k3, k4, k5, k6⟩ := drawRun_s rs hA g2 (hT.mono g3.mo) ok (prev' := none) (fun i e => by cases e) g4 hr
  have c1 := rcds_tr k5 (g5.imp fun _ _ h => h.mono fun i j e => k3.mo.ext _ _ e) hrc.1
  have c2 := rcds_tr k5 k6 hrc.2
  simp only [k1, drawEnd, c1, c2, Bool.and_self, if_true]
  exact ⟨_, b2, _, rfl, k2, g3.trans k3, k4⟩
end
end Go.AM
/- A whole run goes alike on both sides: bodies, calls, iterators. -/
namespace Go.AM
open Go

section
variable {R : Rec} {A B : Nat → Prop} (rs : RS R A B) (hA : ∀ j, ¬ A j)
include rs hA
theorem rangeC_s {b : NMap} {H G : AHeap} {T T' : Fr} (hH : FH b A B H G) (hT : FT b A G T T') {f : AX} {ps : List (List Bool)} {x y : ACode} (ok : okC (.rangef f ps x y) = true) {e2 : AExit} {T2 : Fr} {H2 : AHeap} (e : rangeC R (ev T f) ps x y T H = some (e2, T2, H2)) :
    ∃ T2' b2 G2, rangeC R (ev T' f) ps x y T' G = some (e2, T2', G2) ∧ FH b2 A B H2 G2 ∧ Ke b A B G b2 A G2 ∧ FT b2 A G2 T2 T2' := by
  have _ := hA
  simp only [okC, Bool.and_eq_true] at ok
  have hv := hT.ev f ok.1
  generalize ev T f = v at e hv
  generalize ev T' f = w at hv ⊢
  cases hv with
  | fn g first cap x' y' h1 h2 =>
    have ke := hH.push_ke (.loop { st := .ready, pend := none, T := T', ps := ps, assign := x, body := y })
    have hp := hH.push (o := .loop { st := .ready, pend := none, T := T, ps := ps, assign := x, body := y }) (u := .loop { st := .ready, pend := none, T := T', ps := ps, assign := x, body := y })
      fun _ => .loop _ _ _ _ _ _ _ (hT.mono ke.mo) ok.2.1 ok.2.2
    simp only [rangeC] at e ⊢
    split at e <;> first | (cases e; done) | skip
    rename_i r hr
    obtain ⟨rv, H3⟩ := r
    obtain ⟨r', b2, G2, k1, k2, k3, k4⟩ := rs.call _ _ _ _ _ hr _ _ _ hp ((h1.mono ke.mo).append (.cons _ _ _ _ (.yld _ _ (addB_same ..)) (h2.mono ke.mo)))
    have k1' : R.call g (x' ++ ([.yld G.nx] ++ y')) (G.push (.loop { st := .ready, pend := none, T := T', ps := ps, assign := x, body := y })) = some (r', G2) := k1
    rw [k1']
    simp only [rangeEnd] at e ⊢
    split at e <;> first | (cases e; done) | skip
    rename_i L hL
    obtain ⟨j, u, m1, m2, m3, m4, m5⟩ := k2.obj _ _ hL rfl
    have hj : j = G.nx := by
      have := k3.mo.ext _ _ (addB_same b H.nx G.nx)
      rw [m1] at this; cases this; rfl
    subst hj
    rw [m4]
    cases m5 with
    | loop st pend T1 T1' ps1 as1 bo1 hTT ha hb =>
      have ke2 := FH.put_ke (b := b2) (G := G2) m2 m3 (.loop ⟨.exhausted, pend, T1', ps1, as1, bo1⟩)
      have hp2 := k2.put m1 m2 m3 (o := .loop ⟨.exhausted, pend, T1, ps1, as1, bo1⟩) (u := .loop ⟨.exhausted, pend, T1', ps1, as1, bo1⟩) fun _ => .loop _ _ _ _ _ _ _ (hTT.mono ke2.mo) ha hb
      have kk := (ke.trans k3).trans ke2
      cases st <;> simp only at e ⊢ <;> first | (cases e; done) | (cases pend <;> simp only [Option.some.injEq, Prod.mk.injEq] at e ⊢ <;> obtain ⟨rfl, rfl, rfl⟩ := e <;> exact ⟨_, b2, _, ⟨rfl, rfl, rfl⟩, hp2, kk, hT.mono kk.mo⟩)
  | _ => simp [rangeC] at e
theorem code_s : ∀ {c : ACode} {b : NMap} {H G : AHeap} {T T' : Fr}, FH b A B H G → FT b A G T T' → okC c = true → ∀ {e2 : AExit} {T2 : Fr} {H2 : AHeap}, code R c T H = some (e2, T2, H2) →
    ∃ T2' b2 G2, code R c T' G = some (e2, T2', G2) ∧ FH b2 A B H2 G2 ∧ Ke b A B G b2 A G2 ∧ FT b2 A G2 T2 T2' := by
  intro c
  induction c with
  | bad => intro b H G T T' hH hT ok e2 T2 H2 e; cases e
  | skip => intro b H G T T' hH hT ok e2 T2 H2 e; simp only [code, Option.some.injEq, Prod.mk.injEq] at e ⊢; obtain ⟨rfl, rfl, rfl⟩ := e; exact ⟨_, b, _, ⟨rfl, rfl, rfl⟩, hH, Ke.refl .., hT⟩
  | exit i => intro b H G T T' hH hT ok e2 T2 H2 e; simp only [code, Option.some.injEq, Prod.mk.injEq] at e ⊢; obtain ⟨rfl, rfl, rfl⟩ := e; exact ⟨_, b, _, ⟨rfl, rfl, rfl⟩, hH, Ke.refl .., hT⟩
  | ret => intro b H G T T' hH hT ok e2 T2 H2 e; simp only [code, Option.some.injEq, Prod.mk.injEq] at e ⊢; obtain ⟨rfl, rfl, rfl⟩ := e; exact ⟨_, b, _, ⟨rfl, rfl, rfl⟩, hH, Ke.refl .., hT⟩
  | region l =>
    intro b H G T T' hH hT ok e2 T2 H2 e
    simp only [okC] at ok
    simp only [code] at e ⊢
    unfold normC at e
    split at e <;> cases e
    rename_i s hs
    obtain ⟨T2', b2, G2, k1, k2, k3, k4⟩ := opsRun_s rs hH hT ok (T2 := s.1) (H2 := s.2) hs
    rw [k1]
    exact ⟨_, b2, _, rfl, k2, k3, k4⟩
  | draw l =>
    intro b H G T T' hH hT ok e2 T2 H2 e
    simp only [okC] at ok
    simp only [code] at e ⊢
    unfold normC at e
    split at e <;> cases e
    rename_i s hs
    obtain ⟨T2', b2, G2, k1, k2, k3, k4⟩ := regionDraw_s rs hA hH hT ok (T2 := s.1) (H2 := s.2) hs
    rw [k1]
    exact ⟨_, b2, _, rfl, k2, k3, k4⟩
  | seq x y ihx ihy =>
    intro b H G T T' hH hT ok e2 T2 H2 e
    simp only [okC, Bool.and_eq_true] at ok
    simp only [code] at e ⊢
    unfold thenC at e ⊢
    split at e <;> first | (cases e; done) | skip
    rename_i s hs
    obtain ⟨e1, T1, H1⟩ := s
    obtain ⟨T1', b1, G1, k1, k2, k3, k4⟩ := ihx hH hT ok.1 hs
    rw [k1]
    cases e1 with
    | normal =>
      obtain ⟨T2', b2, G2, m1, m2, m3, m4⟩ := ihy k2 k4 ok.2 e
      exact ⟨T2', b2, G2, m1, m2, k3.trans m3, m4⟩
    | _ =>
      simp only [Option.some.injEq, Prod.mk.injEq] at e ⊢
      obtain ⟨rfl, rfl, rfl⟩ := e
      exact ⟨_, b1, _, ⟨rfl, rfl, rfl⟩, k2, k3, k4⟩
  | cond c x y ihx ihy =>
    intro b H G T T' hH hT ok e2 T2 H2 e
    simp only [okC, Bool.and_eq_true] at ok
    simp only [code] at e ⊢
    rw [asB_eq (hT.ev c ok.1)]
    split at e
    · exact ihx hH hT ok.2.1 e
    · exact ihy hH hT ok.2.2 e
    · cases e
  | block id x ihx =>
    intro b H G T T' hH hT ok e2 T2 H2 e
    simp only [okC] at ok
    simp only [code] at e ⊢
    unfold blockC at e ⊢
    split at e <;> first | (cases e; done) | skip
    rename_i s hs
    obtain ⟨e1, T1, H1⟩ := s
    obtain ⟨T1', b1, G1, k1, k2, k3, k4⟩ := ihx hH hT ok hs
    rw [k1]
    cases e1 with
    | exit i =>
      simp only at e ⊢
      split at e
      · rename_i hb
        simp only [Option.some.injEq, Prod.mk.injEq] at e
        obtain ⟨rfl, rfl, rfl⟩ := e
        rw [if_pos hb]
        exact ⟨_, b1, _, rfl, k2, k3, k4⟩
      · rename_i hb
        simp only [Option.some.injEq, Prod.mk.injEq] at e
        obtain ⟨rfl, rfl, rfl⟩ := e
        rw [if_neg hb]
        exact ⟨_, b1, _, rfl, k2, k3, k4⟩
    | _ =>
      simp only [Option.some.injEq, Prod.mk.injEq] at e ⊢
      obtain ⟨rfl, rfl, rfl⟩ := e
      exact ⟨_, b1, _, ⟨rfl, rfl, rfl⟩, k2, k3, k4⟩
  | loop x =>
    intro b H G T T' hH hT ok e2 T2 H2 e
    simp only [okC] at ok
    exact rs.loop _ _ _ _ _ _ e _ _ _ ok hH hT
  | rangef f ps x y =>
    intro b H G T T' hH hT ok e2 T2 H2 e
    exact rangeC_s rs hA hH hT ok e
theorem yldF_s {i : Nat} {args : List AV} {H : AHeap} {r : AV} {H2 : AHeap} (e : yldF R i args H = some (r, H2)) {b : NMap} {G : AHeap} {args' : List AV} {j : Nat} (hH : FH b A B H G) (ha : FVs b A G args args') (hi : b i = some j) :
    ∃ r' b2 G2, yldF R j args' G = some (r', G2) ∧ FH b2 A B H2 G2 ∧ Ke b A B G b2 A G2 ∧ FV b2 A G2 r r' := by
  have setR : ∀ {ps : List (List Bool)} {x y : List AV} {T T' T1 : Fr}, FVs b A G x y → FT b A G T T' → setPs ps x T = some T1 → ∃ T1', setPs ps y T' = some T1' ∧ FT b A G T1 T1' := by
    intro ps
    induction ps with
    | nil =>
      intro x y T T' T1 hv hT e
      cases hv with
      | nil => simp [setPs] at e; subst e; exact ⟨T', rfl, hT⟩
      | cons => simp [setPs] at e
    | cons p ps ih =>
      intro x y T T' T1 hv hT e
      cases hv with
      | nil => simp [setPs] at e
      | cons v w x y h hs => simp only [setPs] at e ⊢; exact ih hs (hT.set h p) e
  unfold yldF at e ⊢
  split at e <;> first | (cases e; done) | skip
  rename_i L hL
  obtain ⟨j', u, k1, k2, k3, k4, k5⟩ := hH.obj _ _ hL rfl
  rw [hi] at k1; cases k1
  rw [k4]
  cases k5 with
  | loop st pend Tl Tl' ps as bo hTT hok1 hok2 =>
    simp only at e ⊢
    split at e <;> first | (cases e; done) | skip
    rename_i T1 hT1
    obtain ⟨T1', s1, s2⟩ := setR ha hTT hT1
    rw [s1]
    simp only
    split at e <;> first | (cases e; done) | skip
    rename_i T2 H3 hc
    obtain ⟨T2', b2, G2, g1, g2, g3, g4⟩ := code_s rs hA hH s2 hok1 hc
    rw [g1]
    simp only
    split at e <;> first | (cases e; done) | skip
    rename_i L2 hL2
    obtain ⟨q, u2, m1, m2, m3, m4, m5⟩ := g2.obj _ _ hL2 rfl
    have hq : q = j := by have := g3.mo.ext _ _ hi; rw [m1] at this; cases this; rfl
    subst hq
    rw [m4]
    cases m5 with
    | loop st2 pend2 Tm Tm' ps2 as2 bo2 hTT2 hok3 hok4 =>
      cases st2 <;> first | (cases e; done) | skip
      simp only at e ⊢
      have ke2 := FH.put_ke (b := b2) (G := G2) m2 m3 (.loop ⟨.busy, pend2, Tm', ps2, as2, bo2⟩)
      have hp2 := g2.put m1 m2 m3 (o := .loop ⟨.busy, pend2, Tm, ps2, as2, bo2⟩) (u := .loop ⟨.busy, pend2, Tm', ps2, as2, bo2⟩) fun _ => .loop _ _ _ _ _ _ _ (hTT2.mono ke2.mo) hok3 hok4
      split at e <;> first | (cases e; done) | skip
      rename_i e3 T3 H4 hc2
      obtain ⟨T3', b3, G3, f1, f2, f3, f4⟩ := code_s rs hA hp2 (g4.mono ke2.mo) hok2 hc2
      rw [f1]
      simp only
      split at e <;> first | (cases e; done) | skip
      rename_i L3 hL3
      obtain ⟨q3, u3, n1, n2, n3, n4, n5⟩ := f2.obj _ _ hL3 rfl
      have hq3 : q3 = q := by have := f3.mo.ext _ _ m1; rw [n1] at this; cases this; rfl
      subst hq3
      rw [n4]
      cases n5 with
      | loop st3 pend3 Tn Tn' ps3 as3 bo3 hTT3 hok5 hok6 =>
        cases e3 with
        | normal =>
          simp only [Option.some.injEq, Prod.mk.injEq] at e ⊢
          obtain ⟨rfl, rfl⟩ := e
          have ke3 := FH.put_ke (b := b3) (G := G3) n2 n3 (.loop ⟨.ready, none, Tn', ps3, as3, bo3⟩)
          have hp3 := f2.put n1 n2 n3 (o := .loop ⟨.ready, none, Tn, ps3, as3, bo3⟩) (u := .loop ⟨.ready, none, Tn', ps3, as3, bo3⟩) fun _ => .loop _ _ _ _ _ _ _ (hTT3.mono ke3.mo) hok5 hok6
          exact ⟨_, b3, _, ⟨rfl, rfl⟩, hp3, ((g3.trans ke2).trans f3).trans ke3, .bool _⟩
        | exit i =>
          simp only [Option.some.injEq, Prod.mk.injEq] at e ⊢
          obtain ⟨rfl, rfl⟩ := e
          have ke3 := FH.put_ke (b := b3) (G := G3) n2 n3 (.loop ⟨.done, some (.exit i), Tn', ps3, as3, bo3⟩)
          have hp3 := f2.put n1 n2 n3 (o := .loop ⟨.done, some (.exit i), Tn, ps3, as3, bo3⟩) (u := .loop ⟨.done, some (.exit i), Tn', ps3, as3, bo3⟩) fun _ => .loop _ _ _ _ _ _ _ (hTT3.mono ke3.mo) hok5 hok6
          exact ⟨_, b3, _, ⟨rfl, rfl⟩, hp3, ((g3.trans ke2).trans f3).trans ke3, .bool _⟩
        | ret =>
          simp only [Option.some.injEq, Prod.mk.injEq] at e ⊢
          obtain ⟨rfl, rfl⟩ := e
          have ke3 := FH.put_ke (b := b3) (G := G3) n2 n3 (.loop ⟨.done, some .ret, Tn', ps3, as3, bo3⟩)
          have hp3 := f2.put n1 n2 n3 (o := .loop ⟨.done, some .ret, Tn, ps3, as3, bo3⟩) (u := .loop ⟨.done, some .ret, Tn', ps3, as3, bo3⟩) fun _ => .loop _ _ _ _ _ _ _ (hTT3.mono ke3.mo) hok5 hok6
          exact ⟨_, b3, _, ⟨rfl, rfl⟩, hp3, ((g3.trans ke2).trans f3).trans ke3, .bool _⟩
theorem callF_s {tbl : Nat → Option AFn} (htb : ∀ f fn, tbl f = some fn → okC fn.body = true) {f : Nat} {args : List AV} {H : AHeap} {r : AV} {H2 : AHeap} (e : callF tbl R f args H = some (r, H2)) {b : NMap} {G : AHeap} {args' : List AV} (hH : FH b A B H G) (ha : FVs b A G args args') :
    ∃ r' b2 G2, callF tbl R f args' G = some (r', G2) ∧ FH b2 A B H2 G2 ∧ Ke b A B G b2 A G2 ∧ FV b2 A G2 r r' := by
  unfold callF at e ⊢
  split at e <;> first | (cases e; done) | skip
  rename_i fn hf
  unfold leaveF at e ⊢
  split at e <;> first | (cases e; done) | skip
  rename_i s hs
  obtain ⟨e1, T1, H1⟩ := s
  obtain ⟨T1', b1, G1, k1, k2, k3, k4⟩ := code_s rs hA hH (FT.frameOf ha FT.leaf) (htb _ _ hf) hs
  rw [k1]
  cases e1 <;> simp only at e ⊢ <;> first | (cases e; done) | skip
  all_goals
    split at e <;> first | (cases e; done) | skip
    rename_i vs hvs
    simp only [Option.some.injEq, Prod.mk.injEq] at e
    obtain ⟨rfl, rfl⟩ := e
    obtain ⟨vs', m1, m2⟩ := resRun_r k2 k4 hvs
    rw [m1]
    exact ⟨_, b1, _, rfl, k2, k3, oneOrTup_r m2⟩
theorem loopF_s {a : ACode} {T : Fr} {H : AHeap} {e1 : AExit} {T2 : Fr} {H2 : AHeap} (e : loopF R a T H = some (e1, T2, H2)) {b : NMap} {G : AHeap} {T' : Fr} (ok : okC a = true) (hH : FH b A B H G) (hT : FT b A G T T') :
    ∃ T2' b2 G2, loopF R a T' G = some (e1, T2', G2) ∧ FH b2 A B H2 G2 ∧ Ke b A B G b2 A G2 ∧ FT b2 A G2 T2 T2' := by
  unfold loopF thenC at e ⊢
  split at e <;> first | (cases e; done) | skip
  rename_i s hs
  obtain ⟨e1, T1, H1⟩ := s
  obtain ⟨T1', b1, G1, k1, k2, k3, k4⟩ := code_s rs hA hH hT ok hs
  rw [k1]
  cases e1 with
  | normal =>
    obtain ⟨T2', b2, G2, m1, m2, m3, m4⟩ := rs.loop _ _ _ _ _ _ e _ _ _ ok k2 k4
    exact ⟨T2', b2, G2, m1, m2, k3.trans m3, m4⟩
  | _ =>
    simp only [Option.some.injEq, Prod.mk.injEq] at e ⊢
    obtain ⟨rfl, rfl, rfl⟩ := e
    exact ⟨_, b1, _, ⟨rfl, rfl, rfl⟩, k2, k3, k4⟩
end
theorem runR_s {tbl : Nat → Option AFn} (htb : ∀ f fn, tbl f = some fn → okC fn.body = true) {A B : Nat → Prop} (hA : ∀ j, ¬ A j) : ∀ n, RS (runR tbl n) A B
  | 0 => ⟨(fun _ _ _ _ _ e => nomatch e), (fun _ _ _ _ _ e => nomatch e), (fun _ _ _ _ _ _ e => nomatch e)⟩
  | n + 1 =>
    have rs := runR_s htb hA n
    ⟨fun _ _ _ _ _ e _ _ _ hH ha => callF_s rs hA htb e hH ha, fun _ _ _ _ _ e _ _ _ _ hH ha hi => yldF_s rs hA e hH ha hi, fun _ _ _ _ _ _ e _ _ _ ok hH hT => loopF_s rs hA e ok hH hT⟩
/-- a closed run from nothing is one from wherever it starts -/
theorem closed_call {tbl : Nat → Option AFn} (htb : ∀ f fn, tbl f = some fn → okC fn.body = true) {n f : Nat} (h : isTrue ((runR tbl n).call f [] AHeap.empty) = true) {H : AHeap} {P : AV → AHeap → Prop} (hp : P (.bool true) H) : CallV tbl f [] H P := by
  unfold isTrue at h
  split at h <;> first | (cases h; done) | skip
  rename_i H1 hr
  intro b A B G args' hH ha
  cases ha
  have hE : FH (fun _ => none) (fun _ => False) (fun j => j < G.nx) AHeap.empty G :=
    { dom := fun i j e => by cases e
      inj := fun i i' j e => by cases e
      hfre := fun i _ => by simp [AHeap.get, AHeap.empty, Tr.get_leaf]
      gfre := hH.gfre, alt := fun j hj => hj.elim, blt := fun j hj => hj
      obj := fun i o g => by simp [AHeap.get, AHeap.empty, Tr.get_leaf] at g }
  obtain ⟨r', b2, G2, k1, k2, k3, k4⟩ := (runR_s htb (A := fun _ => False) (B := fun j => j < G.nx) (fun _ h => h) n).call _ _ _ _ _ hr _ _ _ hE .nil
  cases k4 with
  | bool =>
    have mo : Mo b A G b A G2 := ⟨fun _ _ e => e, fun _ e => e, fun j e => k3.by_ j (hH.alt j e).1⟩
    have nx := k3.nx
    refine ⟨n, _, k1, b, A, .bool true, H, ?_, ⟨mo, nx, fun j e => k3.by_ j (hH.blt j e), fun _ _ e => .inl e⟩, .bool _, hp⟩
    exact { dom := fun i j e => ⟨(hH.dom _ _ e).1, Nat.lt_of_lt_of_le (hH.dom _ _ e).2 nx⟩, inj := hH.inj, hfre := hH.hfre, gfre := k2.gfre
            alt := fun j e => ⟨Nat.lt_of_lt_of_le (hH.alt j e).1 nx, (hH.alt j e).2⟩, blt := fun j e => Nat.lt_of_lt_of_le (hH.blt j e) nx
            obj := fun i o g l => by
              obtain ⟨j, u, k1, k2, k3', k4, k5⟩ := hH.obj i o g l
              exact ⟨j, u, k1, k2, k3', (k3.by_ j (hH.dom _ _ k1).2).trans k4, k5.mono mo⟩ }
end Go.AM
/- A block is frozen that a cell of memory tells, too. -/
namespace Go.AM
open Go
theorem GoS.freezeC {tbl : Nat → Option AFn} {H : AHeap} {k : List KI} (hn : noD k = true) {e : AExit} {T T2 : Fr} {Q : AExit → Fr → AHeap → Prop} {i c : Nat} {cs xs ys : List AV} {st st2 : BSt} (hi : H.get i = some (.cells cs st)) (hc : H.get c = some (.cells xs st2)) (hne : i ≠ c)
    (hxy : Fz1s i cs xs ys) (hT : ∀ p, Fz1 i cs (Fr.at_ T p) (Fr.at_ T2 p)) (h : GoS tbl k e T2 ((H.put i .gone).put c (.cells ys st2)) Q) : GoS tbl k e T H Q := by
  intro b A B G T' k' hH hTT hK
  obtain ⟨j, u, k1, k2, k3, k4, k5⟩ := hH.obj _ _ hi rfl
  cases k5 with
  | cells _ y _ hy =>
    have mo : Mo b A G b (fun q => A q ∨ q = j) G := ⟨fun _ _ e => e, fun _ e => .inl e, fun _ _ => rfl⟩
    have ke : Ke b A B G b (fun q => A q ∨ q = j) G := ⟨mo, Nat.le_refl _, fun _ _ => rfl, fun _ _ e => .inl e⟩
    have hd := hH.dom _ _ k1
    have hdc : ∃ j2, b c = some j2 := let ⟨j2, _, h1, _⟩ := hH.obj _ _ hc rfl; ⟨j2, h1⟩
    have hcn : c < H.nx := let ⟨j2, h1⟩ := hdc; (hH.dom _ _ h1).1
    have hH2 : FH b (fun q => A q ∨ q = j) B ((H.put i .gone).put c (.cells ys st2)) G :=
      { dom := hH.dom, inj := hH.inj
        hfre := fun q hq => by
          simp at hq
          rw [get_put_ne _ _ _ _ (by omega), get_put_ne _ _ _ _ (by omega)]; exact hH.hfre q hq
        gfre := hH.gfre
        alt := fun q hq => by
          rcases hq with hq | rfl
          · exact hH.alt q hq
          · exact ⟨hd.2, k3⟩
        blt := hH.blt
        obj := fun q o g l => by
          by_cases ec : c = q
          · subst ec
            rw [get_put_same] at g; cases g
            obtain ⟨j2, u2, m1, m2, m3, m4, m5⟩ := hH.obj _ _ hc rfl
            refine ⟨j2, u2, m1, fun hcc => ?_, m3, m4, ?_⟩
            · rcases hcc with hcc | rfl
              · exact m2 hcc
              · exact hne (hH.inj _ _ _ k1 m1)
            · cases m5 with
              | cells _ y2 _ hy2 => exact .cells _ _ _ (hxy.fv k1 k4 hy hy2)
          · rw [get_put_ne _ _ _ _ ec] at g
            by_cases eq : i = q
            · subst eq; rw [get_put_same] at g; cases g; cases l
            · rw [get_put_ne _ _ _ _ eq] at g
              obtain ⟨j2, u2, m1, m2, m3, m4, m5⟩ := hH.obj q o g l
              refine ⟨j2, u2, m1, fun hc => ?_, m3, m4, m5.mono mo⟩
              rcases hc with hc | rfl
              · exact m2 hc
              · exact eq (hH.inj _ _ _ k1 m1) }
    obtain ⟨rfl, ok⟩ := hK.noD hn
    exact (h b _ B G T' _ hH2 (fun p => (hT p).fv k1 k4 hy (hTT p)) (.plain _ ok)).then_ ke
end Go.AM
