/- One level down: calls, rounds, loops. -/
import Derived.Test.YtgdceghclckfhaaGreatA00
import Derived.OrdersIn
set_option linter.unusedVariables false
set_option linter.unusedSimpArgs false
namespace Go.AM
open Go Go.RowKit

section
variable {P : Program} {R : Rec} {tbl : Nat → Option AFn}

def TblOk (P : Program) (tbl : Nat → Option AFn) : Prop := ∀ f fn, tbl f = some fn → ∃ g, P.funcs[f]? = some g ∧ cfn P g = some fn

theorem cfn_spec {g : Func} {fn : AFn} (h : cfn P g = some fn) : ∃ c, g.body = some c ∧ (g.name == "runtime.NumGoroutine") = false ∧ fn.body = cc P g.ntmps c ∧ cres P g.results.toList = some fn.results := by
  unfold cfn at h
  split at h <;> first | cases h | skip
  rename_i c rs hb hrs
  split at h <;> cases h
  rename_i hn
  exact ⟨c, hb, by simpa using hn, rfl, hrs⟩

/-! what a function hands back -/
theorem results_rel {B : Nat} {w0 : World} {pr : List Nat} {β : Beta} {H : AHeap} {w : World} (h : HR P B w0 pr β H w) {N : Nat} {T : Fr} {tmps : Array Value} (hT : TR β N T tmps) :
    ∀ {l : List ResultVar} {rs : List ARes} {vs : List AV}, cres P l = some rs → resRun rs T H = some vs →
      ∃ us : List Value, (l.mapM fun (x : ResultVar) => (match x with | .tmp t => pure (tmps.getD t undef) | .cell a t => do loadVar t (← asAddr (tmps.getD a undef)) : Sem Value)).run P w = .ok us w ∧ VRs β vs us := by
  intro l
  induction l with
  | nil =>
    intro rs vs h1 h2
    cases h1; cases h2
    exact ⟨[], rfl, .nil⟩
  | cons x l ih =>
    intro rs vs h1 h2
    cases x with
    | tmp t =>
      simp only [cres] at h1
      split at h1 <;> cases h1
      rename_i rs' hrs
      simp only [resRun] at h2
      split at h2 <;> cases h2
      rename_i vs' hvs
      obtain ⟨us, g1, g2⟩ := ih hrs hvs
      exact ⟨tmps.getD t undef :: us, by simp only [List.mapM_cons, Sem.run_bind, Sem.run_pure, Result.andThen_ok, g1], .cons _ _ _ _ (hT.2 t) g2⟩
    | cell p t =>
      have key : ∀ (ag : Bool) (n : Nat) (rs' : List ARes), uag P t = some ag → (ag = true → usz P t = some n) → (ag = false → n = 1) → cres P l = some rs' → resRun (.cell (path p) ag n :: rs') T H = some vs →
          ∃ us : List Value, ((ResultVar.cell p t :: l).mapM fun (x : ResultVar) => (match x with | .tmp t => pure (tmps.getD t undef) | .cell a t => do loadVar t (← asAddr (tmps.getD a undef)) : Sem Value)).run P w = .ok us w ∧ VRs β vs us := by
        intro ag n rs' hag hn hn1 hrs h2
        simp only [resRun] at h2
        split at h2 <;> first | cases h2 | skip
        rename_i i off hp
        split at h2 <;> first | cases h2 | skip
        rename_i cs hcs
        split at h2 <;> first | cases h2 | skip
        rename_i v hv
        split at h2 <;> cases h2
        rename_i vs' hvs
        obtain ⟨us, g1, g2⟩ := ih hrs hvs
        have hpv := hT.2 p
        rw [hp] at hpv
        have hl := load_sound h hag hn hn1 hpv v H (by simp only [opLoad, asP, hcs, mkValO, hv, ret])
        obtain ⟨u, w', β', k1, k2, k3, k4⟩ := hl
        cases hpe : tmps.getD p undef with
        | pointer a =>
          rw [hpe] at hpv k1
          cases hpv with
          | ptr _ _ b s z hb =>
            -- the load leaves all as it was
            have hw : w' = w ∧ VR β v u := by
              obtain ⟨us2, q1, q2, q3⟩ := run_loads h hb hcs
              obtain ⟨_, q4⟩ := cellsAt h hb hcs
              simp only at q2 q4
              cases ag with
              | true =>
                have : (Instr.loadAt t (.pointer (some ⟨b, s + off, none⟩))).run P w = .ok (.agg us2.toArray) w := by
                  simp only [Instr.loadAt, Instr.sureAddr, Sem.run_bind, Sem.run_pure, Result.andThen_ok, loadVar, run_isAgg hag, if_true, run_sizeOf (hn rfl), q2]
                rw [this] at k1
                cases k1
                simp only [mkVal, if_true, Option.some.injEq] at hv
                subst hv
                exact ⟨rfl, .agg _ _ (by simpa using q3)⟩
              | false =>
                obtain rfl := hn1 rfl
                simp only [mkVal, Bool.false_eq_true, if_false] at hv
                split at hv <;> cases hv
                obtain ⟨y, a1, a2⟩ := q4 0 v (by simp)
                simp only [Nat.add_zero] at a1
                have : (Instr.loadAt t (.pointer (some ⟨b, s + off, none⟩))).run P w = .ok y w := by
                  simp only [Instr.loadAt, Instr.sureAddr, Sem.run_bind, Sem.run_pure, Result.andThen_ok, loadVar, run_isAgg hag, Bool.false_eq_true, if_false, run_load, a1]
                rw [this] at k1
                cases k1
                exact ⟨rfl, a2⟩
            obtain ⟨rfl, hv'⟩ := hw
            refine ⟨u :: us, ?_, .cons _ _ _ _ hv' g2⟩
            have k1' : (loadVar t ⟨b, s + off, none⟩).run P w' = .ok u w' := by
              simpa only [Instr.loadAt, Instr.sureAddr, Sem.run_bind, Sem.run_pure, Result.andThen_ok] using k1
            have hA : (asAddr (tmps.getD p undef)).run P w' = .ok ⟨b, s + off, none⟩ w' := by rw [hpe]; rfl
            rw [List.mapM_cons]
            simp only [Sem.run_bind, hA, Result.andThen_ok, k1', g1, Sem.run_pure]
        | _ => rw [hpe] at hpv; cases hpv
      simp only [cres] at h1
      split at h1 <;> cases h1
      · exact key true _ _ ‹_› (fun _ => ‹_›) (fun h => by cases h) ‹_› h2
      · exact key false 1 _ ‹_› (fun h => by cases h) (fun _ => rfl) ‹_› h2

theorem results_sound {B : Nat} {w0 : World} {pr : List Nat} {β : Beta} {H : AHeap} {w : World} (h : HR P B w0 pr β H w) {N : Nat} {T : Fr} {tmps : Array Value} (hT : TR β N T tmps) {g : Func}
    {rs : List ARes} {vs : List AV} (h1 : cres P g.results.toList = some rs) (h2 : resRun rs T H = some vs) : ∃ u, (results g tmps).run P w = .ok u w ∧ VR β (oneOrTup vs) u := by
  obtain ⟨us, g1, g2⟩ := results_rel h hT h1 h2
  have hm : (g.results.mapM fun (x : ResultVar) => (match x with | .tmp t => pure (tmps.getD t undef) | .cell a t => do loadVar t (← asAddr (tmps.getD a undef)) : Sem Value)).run P w = .ok us.toArray w := by
    rw [Array.mapM_eq_mapM_toList, Sem.run_map, g1, Result.andThen_ok]
  refine ⟨if h : us.toArray.size = 1 then us.toArray[0] else .tuple us.toArray, ?_, ?_⟩
  · have e : results g tmps = (do
        let vs ← g.results.mapM fun (x : ResultVar) => (match x with | .tmp t => pure (tmps.getD t undef) | .cell a t => do loadVar t (← asAddr (tmps.getD a undef)) : Sem Value)
        pure (if h : vs.size = 1 then vs[0] else .tuple vs)) := rfl
    rw [e, Sem.run_bind, hm, Result.andThen_ok]
    rfl
  · cases g2 with
    | nil => exact .tup _ _ .nil
    | cons v u vs us hv hs =>
      cases hs with
      | nil => exact hv
      | cons v2 u2 vs2 us2 hv2 hs2 =>
        have : ¬ ((u :: u2 :: us2).toArray.size = 1) := by simp
        rw [dif_neg this]
        exact .tup _ _ (.cons _ _ _ _ hv (.cons _ _ _ _ hv2 hs2))

/-! the frame of a call -/
theorem frame_rel {β : Beta} : ∀ (args : List AV) (us : List Value) (k : Nat) (T : Fr) (tmps : Array Value) (N : Nat), VRs β args us → TR β N T tmps → k + us.length ≤ tmps.size →
    TR β N (frameOf k args T) ((us.zipIdx k).foldl (fun (a : Array Value) x => a.setIfInBounds x.2 x.1) tmps) := by
  intro args
  induction args with
  | nil => intro us k T tmps N h hT _; cases h; exact hT
  | cons v args ih =>
    intro us k T tmps N h hT hk
    cases h with
    | cons _ u _ us hv hs =>
      simp only [List.length_cons] at hk
      simp only [frameOf, List.zipIdx_cons, List.foldl_cons]
      refine ih us (k + 1) _ _ N hs ?_ (by simp; omega)
      refine ⟨by simpa using hT.1, fun t => ?_⟩
      by_cases e : k = t
      · subst e
        rw [at_set_same]
        have : k < tmps.size := by omega
        simp [Array.getD, this, hv]
      · rw [at_set_ne _ _ _ _ (path_ne e)]
        have : (tmps.setIfInBounds k u).getD t undef = tmps.getD t undef := by
          simp only [Array.getD_eq_getD_getElem?, Array.getElem?_setIfInBounds_ne e]
        rw [this]; exact hT.2 t

theorem enter_rel {β : Beta} {args : List AV} {args' : Array Value} (h : VRs β args args'.toList) (N : Nat) : TR β N (frameOf 0 args .leaf) (args' ++ Array.replicate (N - args'.size) undef) := by
  have hl := h.length
  simp only [Array.length_toList] at hl
  have h0 : TR β N (.leaf : Fr) (Array.replicate (args'.size + (N - args'.size)) undef) := by
    refine ⟨by simp; omega, fun t => ?_⟩
    have : Fr.at_ (.leaf : Fr) (path t) = .undef := by simp [Fr.at_, Tr.get_leaf]
    rw [this]; exact .undef _
  have h1 := frame_rel args args'.toList 0 .leaf _ N h h0 (by simp)
  have e : ((args'.toList.zipIdx 0).foldl (fun (a : Array Value) x => a.setIfInBounds x.2 x.1) (Array.replicate (args'.size + (N - args'.size)) undef)) = args' ++ Array.replicate (N - args'.size) undef := by
    obtain ⟨g1, g2⟩ := foldl_set_get args'.toList 0 0 (Array.replicate (args'.size + (N - args'.size)) undef) (by simp)
    simp only [Nat.zero_add] at g1 g2
    apply Array.ext_getElem?
    intro i
    rw [g2 i]
    by_cases hi : i < args'.size
    · simp [hi, Array.getElem?_append_left]
    · simp [hi]
      by_cases hi2 : i < args'.size + (N - args'.size)
      · rw [Array.getElem?_append_right (by omega), Array.getElem?_replicate, Array.getElem?_replicate, if_pos hi2, if_pos (by omega)]
      · rw [Array.getElem?_append_right (by omega), Array.getElem?_replicate, Array.getElem?_replicate, if_neg hi2, if_neg (by omega)]
  rw [e] at h1
  exact h1

/-! the marks are taken -/
theorem HR.take {B : Nat} {w0 : World} {d : Nat} {l : List Nat} {β : Beta} {H : AHeap} {w : World} (h : HR P B w0 (d :: l) β H w) (hnd : (d :: l).Nodup) :
    HR P B w0 l β H (w.putObj d (.deferred none)) := by
  have hp := h.prs d (List.mem_cons_self ..)
  have hlt := (Array.getElem?_eq_some_iff.1 hp.2).1
  simp only [List.nodup_cons] at hnd
  exact { below := h.below.trans ⟨rfl, rfl, rfl, by simp, fun k hk => World.putObj_heap_other (by omega)⟩, base := by simpa using h.base, dom := h.dom, free := h.free, inj := h.inj
          obj := fun i x o e g => by
            cases hl : live o with
            | false => cases o <;> first | trivial | (simp [live] at hl)
            | true =>
              have hne : x.1 ≠ d := fun e' => h.not_pr e g hl (by rw [e']; exact List.mem_cons_self ..)
              have := (h.obj i x o e g).of_block (w' := w.putObj d (.deferred none)) (World.putObj_heap_other hne)
              cases o with
              | cells cs st => exact this
              | map kl es ck => exact this
              | loop L => exact this
              | gone => trivial
          prs := fun e he => by
            have := h.prs e (List.mem_cons_of_mem _ he)
            exact ⟨this.1, (World.putObj_heap_other (fun e' => hnd.1 (by rw [← e']; exact he))).trans this.2⟩
          blk := fun i x e => by simpa using h.blk i x e }

theorem leaves_marks {B : Nat} {w0 : World} {pr : List Nat} {m : Nat} {g : Func} {tmps : Array Value} {Rs : Ending → World → Prop} {β : Beta} {H : AHeap} : ∀ (ds : List Nat) (w : World), HR P B w0 (ds ++ pr) β H w → (ds ++ pr).Nodup →
    (∀ w', HR P B w0 pr β H w' → ∃ v, (results g tmps).run P w' = .ok v w' ∧ Rs (.returned v) w') → LeavesInM (WF none) m P g tmps Rs (ds.map mk) .returning w := by
  intro ds
  induction ds with
  | nil =>
    intro w h _ hf
    exact hf w h
  | cons d ds ih =>
    intro w h hnd hf
    refine ⟨by simp, .inl ⟨d, w.putObj d (.deferred none), rfl, ?_, ih _ (h.take hnd) (by simp only [List.cons_append, List.nodup_cons] at hnd; exact hnd.2) hf⟩⟩
    have hp := (h.prs d (by simp)).2
    have hg : (getObj d).run P w = .ok (.deferred (some [])) w := by simp [getObj, Sem.run, hp]
    have hs : (setObj d (.deferred none)).run P w = .ok () (w.putObj d (.deferred none)) := by simp [setObj, Sem.run, hp, World.putObj]
    simp only [Instr.takeDeferred, Sem.run_bind, hg, Result.andThen_ok, hs, Sem.run_pure]

theorem call_sound {lv : Nat} (hS : Sound P R lv) (hD : DrawSound P R) (ht : TblOk P tbl) : ∀ f args H r H', callF tbl R f args H = some (r, H') → ∀ B w0 pr β w (args' : Array Value) ro m, HR P B w0 pr β H w → pr.Nodup → VRs β args args'.toList →
    CallsIn (WF ro) m P f args' w (Ret P B w0 pr β H r H') := by
  intro f args H r H' hc B w0 pr β w args' ro m h hpr hargs
  unfold callF at hc
  split at hc <;> first | cases hc | skip
  rename_i fn hfn
  obtain ⟨g, hg, hcf⟩ := ht f fn hfn
  obtain ⟨c, hb, hname, hbody, hres⟩ := cfn_spec hcf
  unfold leaveF at hc
  split at hc <;> first | cases hc | skip
  rename_i s hs
  obtain ⟨e, T1, H1⟩ := s
  rw [hbody] at hs
  refine callsWF (ro := none) (callsIn_of_wp_marks hg hb (WF.fn none f) ?_ rfl)
  have hcode := code_sound hS hD g.ntmps none c (frameOf 0 args .leaf) H e T1 H1 hs (.inl rfl) B w0 pr [] β w { tmps := args' ++ Array.replicate (g.ntmps - args'.size) undef, defers := [] } m h (enter_rel hargs g.ntmps) rfl hpr
  refine wpIn_mono hcode ?_
  rintro ex a' w' ⟨rfl, ds', β', g1, g2, g3, g4, g5, _⟩
  have hout : ∀ vs, resRun fn.results T1 H1 = some vs → oneOrTup vs = r → H1 = H' → LeavesInM (WF none) m P g a'.tmps (Ret P B w0 pr β H r H') a'.defers .returning w' := by
    intro vs hvs hr hH
    subst hH
    rw [g4]
    refine leaves_marks ds' w' g2 g5 fun w2 hw2 => ?_
    obtain ⟨u, k1, k2⟩ := results_sound hw2 g3 hres hvs
    exact ⟨u, k1, u, β', rfl, g1, hw2, by rw [← hr]; exact k2⟩
  cases e with
  | normal =>
    simp only at hc
    split at hc <;> cases hc
    exact hout _ ‹_› rfl rfl
  | ret =>
    simp only at hc
    split at hc <;> cases hc
    exact hout _ ‹_› rfl rfl
  | exit id => cases hc

/-! a round -/
theorem setPs_rel {β : Beta} : ∀ {ps : List Tmp} {args : List AV} {us : List Value} {T T' : Fr} {tmps : Array Value} {N : Nat}, setPs (ps.map path) args T = some T' → VRs β args us → (∀ t, t ∈ ps → t < N) → TR β N T tmps →
    ps.length = us.length ∧ TR β N T' ((ps.zip us).foldl (fun (a : Array Value) x => a.setIfInBounds x.1 x.2) tmps) := by
  intro ps
  induction ps with
  | nil =>
    intro args us T T' tmps N h ha _ hT
    cases args with
    | nil => cases ha; cases h; exact ⟨rfl, hT⟩
    | cons v args => simp [setPs] at h
  | cons p ps ih =>
    intro args us T T' tmps N h ha hp hT
    cases args with
    | nil => simp [setPs] at h
    | cons v args =>
      cases ha with
      | cons _ u _ us hv hs =>
        simp only [List.map_cons, setPs] at h
        obtain ⟨g1, g2⟩ := ih h hs (fun t ht => hp t (List.mem_cons_of_mem _ ht)) (hT.set (hp p (List.mem_cons_self ..)) hv)
        exact ⟨by simp [g1], g2⟩

theorem yld_sound {lv : Nat} (hS : Sound P R lv) (hD : DrawSound P R) : ∀ i args H r H', yldF R i args H = some (r, H') → ∀ B w0 pr β w (args' : Array Value) (ro : Option Nat) m b s z, HR P B w0 pr β H w → pr.Nodup → VRs β args args'.toList → β i = some (b, s, z) →
    ∃ fn tmps assign body, (Instr.yield b args').run P w = .ok (.round b fn tmps assign body) w ∧ RoundIn (WF ro) m P b fn tmps assign body w (Ret P B w0 pr β H r H') := by
  intro i args H r H' hy B w0 pr β w args' ro m b s z h hpr hargs hi
  unfold yldF at hy
  split at hy <;> first | cases hy | skip
  rename_i L hL
  split at hy <;> first | cases hy | skip
  rename_i T1 hT1
  split at hy <;> first | cases hy | skip
  rename_i T2 H2 has
  split at hy <;> first | cases hy | skip
  rename_i L2 hL2
  split at hy <;> first | cases hy | skip
  rename_i hready
  split at hy <;> first | cases hy | skip
  rename_i e T3 H3 hbd
  split at hy <;> first | cases hy | skip
  rename_i L3 hL3
  obtain ⟨o0, L', o1, N, l1, l2, l3, l4, l5, l6, l7, l8, l9, l10⟩ := h.obj _ _ _ hi hL
  simp only at o0 o1
  rw [l5] at hT1
  obtain ⟨hlen, hTR⟩ := setPs_rel hT1 hargs l6 l4
  have hsz : ¬ (args'.size ≠ L'.params.size) := by
    have h1 := hlen; simp at h1; omega
  have hfold : ((L'.params.zip args').foldl (fun (tmps : Array Value) x => match x with | (t, a) => tmps.setIfInBounds t a) L'.tmps) = ((L'.params.toList.zip args'.toList).foldl (fun (a : Array Value) x => a.setIfInBounds x.1 x.2) L'.tmps) := by
    rw [← Array.foldl_toList, Array.toList_zip]
  refine ⟨L'.fn, (L'.params.zip args').foldl (fun (tmps : Array Value) x => match x with | (t, a) => tmps.setIfInBounds t a) L'.tmps, L'.assign, L'.body, ?_, roundWF (ro := none) (roundIn_of_wpIn (F := WF none) trivial ?_)⟩
  · simp only [Instr.yield, Instr.getLoop, Sem.run_bind, run_getObj_loop o1, Result.andThen_ok, Sem.run_pure, if_neg hsz]
  · rw [hfold]
    have hF : (WF none).inRound b = WF (some b) := rfl
    rw [hF]
    rw [l7] at has
    have hA := code_sound hS hD N (some b) L'.assign T1 H .normal T2 H2 has (.inr l9) B w0 pr [] β w { tmps := (L'.params.toList.zip args'.toList).foldl (fun (a : Array Value) x => a.setIfInBounds x.1 x.2) L'.tmps, defers := [] } m h hTR rfl hpr
    refine wpIn_mono hA ?_
    rintro ex a' w' ⟨rfl, ds', β', g1, g2, g3, g4, g5, g6⟩
    have hds := g6 rfl
    subst hds
    simp only [List.nil_append, List.map_nil] at g2 g4 g5
    have hi2 : β' i = some (b, s, z) := by rw [g1.2 i (h.dom i _ hi)]; exact hi
    obtain ⟨p0, M', p1, N2, m1, m2, m3, m4, m5⟩ := g2.obj _ _ _ hi2 hL2
    simp only at p0 p1
    have hlt : b < w'.heap.size := (Array.getElem?_eq_some_iff.1 p1).1
    have hst : M'.state = .ready := m1.trans hready
    have hput2 : HR P B w0 pr β' (H2.put i (.loop { L2 with st := .busy })) (w'.putObj b (.loop { M' with state := .busy })) := by
      refine g2.put hi2 ⟨_, hL2, rfl⟩ ⟨rfl, rfl, rfl, by simp, fun k hk => World.putObj_heap_other (by omega)⟩ (fun k hk => World.putObj_heap_other hk) (by simp) (g2.not_pr hi2 hL2 rfl) ?_
      exact ⟨p0, _, World.putObj_heap_same hlt, N2, rfl, m2, m3, m4, m5⟩
    refine ⟨w'.putObj b (.loop { M' with state := .busy }), ?_, ?_⟩
    · simp only [Instr.beginRound, Instr.getLoop, Sem.run_bind, run_getObj_loop p1, Result.andThen_ok, Sem.run_pure, run_setObj_loop _ p1, hst]
    · rw [l8] at hbd
      have hB := code_sound hS hD N (some b) L'.body T2 _ e T3 H3 hbd (.inr l10) B w0 pr [] β' _ a' m hput2 g3 g4 g5
      refine wpIn_mono hB ?_
      rintro ex a3 w3 ⟨rfl, ds3, β3, k1, k2, k3, k4, k5, k6⟩
      have hds3 := k6 rfl
      subst hds3
      simp only [List.nil_append] at k2
      have hi3 : β3 i = some (b, s, z) := by rw [k1.2 i (by simp; exact g2.dom i _ hi2)]; exact hi2
      obtain ⟨q0, K', q1, N3, n1, n2, n3, n4, n5⟩ := k2.obj _ _ _ hi3 hL3
      simp only at q0 q1
      have hlt3 : b < w3.heap.size := (Array.getElem?_eq_some_iff.1 q1).1
      have hEx : ∀ o, Ex H β (H3.put i o) β3 := fun o => (g1.trans (Ex.trans (Ex.same β' (by simp)) k1)).trans (Ex.same β3 rfl)
      have hend : ∀ j : Option Code, (Instr.endRound b j).run P w3 = .ok (.bool j.isNone) (w3.putObj b (.loop { K' with state := if j.isNone then .ready else .done, pending := j })) := fun j => by
        simp only [Instr.endRound, Instr.getLoop, Sem.run_bind, run_getObj_loop q1, Result.andThen_ok, Sem.run_pure, run_setObj_loop _ q1]
      have hput3 : ∀ (st : LoopState) (pe : Option AExit) (j : Option Code), (j = match pe with | none => none | some e => codeOf e) → pe ≠ some .normal →
          HR P B w0 pr β3 (H3.put i (.loop { L3 with st := st, pend := pe })) (w3.putObj b (.loop { K' with state := st, pending := j })) := by
        intro st pe j hj hpe
        refine k2.put hi3 ⟨_, hL3, rfl⟩ ⟨rfl, rfl, rfl, by simp, fun k hk => World.putObj_heap_other (by omega)⟩ (fun k hk => World.putObj_heap_other hk) (by simp) (k2.not_pr hi3 hL3 rfl) ?_
        exact ⟨q0, _, World.putObj_heap_same hlt3, N3, rfl, hj, hpe, n4, n5⟩
      cases e with
      | normal =>
        cases hy
        exact ⟨_, _, hend none, .bool true, β3, rfl, hEx _, hput3 .ready none none rfl (by simp), .bool true⟩
      | ret =>
        cases hy
        exact ⟨_, _, hend (some .ret), .bool false, β3, rfl, hEx _, hput3 .done (some .ret) (some .ret) rfl (by simp), .bool false⟩
      | exit id =>
        cases hy
        exact ⟨_, _, hend (some (.exit id)), .bool false, β3, rfl, hEx _, hput3 .done (some (.exit id)) (some (.exit id)) rfl (by simp), .bool false⟩

theorem loop_sound {lv : Nat} (hS : Sound P R lv) (hD : DrawSound P R) : ∀ (c : Code) (N : Nat) (ro : Option Nat) (T : Fr) (H : AHeap) e T' H', loopF R (cc P N c) T H = some (e, T', H') → (ro = none ∨ noR c = true) →
    ∀ B w0 pr ds β w (a : Act) m, HR P B w0 (ds ++ pr) β H w → TR β N T a.tmps → a.defers = ds.map mk → (ds ++ pr).Nodup → Code.roundsIn (WF ro) m P c (Post P B w0 pr ds N ro β H e T' H') (lv + 1) a w := by
  intro c N ro T H e T' H' hr hn B w0 pr ds β w a m h hT hd hnd
  refine then_wp hn (code_sound hS hD N ro c T H) hr B w0 pr ds β w a m _ ?_ h hT hd hnd
  intro T1 H1 hk ds' β' w' a' g1 g2 g3 g4 g5 g6
  have h2 := hS.loop c N ro T1 H1 e T' H' hk hn B w0 pr ds' β' w' a' m g2 g3 g4 g5
  have mono : ∀ (n : Nat) (a : Act) (w : World) (Q Q' : Exit → Act → World → Prop), (∀ e a w, Q e a w → Q' e a w) → Code.roundsIn (WF ro) m P c Q n a w → Code.roundsIn (WF ro) m P c Q' n a w := by
    intro n
    induction n with
    | zero => intro a w Q Q' _ h; exact h
    | succ n ih =>
      intro a w Q Q' hq h
      refine wpIn_mono h ?_
      intro e a' w' he
      cases e with
      | normal => exact ih a' w' Q Q' hq he
      | _ => exact hq _ _ _ he
  exact mono lv a' w' _ _ (fun ex a'' w'' hp => hp.chain g1 g6) h2

end

theorem run_sound {P : Program} {tbl : Nat → Option AFn} (ht : TblOk P tbl) (hD : ∀ R, RSound P R → DrawSound P R) : ∀ n, Sound P (runR tbl n) n := by
  intro n
  induction n with
  | zero => exact { r := { fn := fun f args H r h => (by cases h), call := fun f args H r H' h => (by cases h), yld := fun i args H r H' h => (by cases h) }, loop := fun c N ro T H e T' H' h => (by cases h) }
  | succ n ih =>
    have hd := hD _ ih.r
    exact { r := { fn := fun f args H r h => by
                     have h : callF tbl (runR tbl n) f args H = some r := h
                     unfold callF at h
                     split at h <;> first | cases h | skip
                     rename_i fn hfn
                     obtain ⟨g, hg, hcf⟩ := ht f fn hfn
                     obtain ⟨c, hb, hname, _, _⟩ := cfn_spec hcf
                     exact ⟨g, c, hg, hb, hname⟩
                   call := call_sound ih hd ht, yld := yld_sound ih hd }, loop := loop_sound ih hd }

end Go.AM
/- Regions that draw, in the abstract machine alone: what an operation looks at, what it leaves. -/
namespace Go.AM
open Go

/-! an operation looks at its operands alone -/
theorem evs_congr {e e' : AX → AV} : ∀ {l : List AX}, (∀ x, x ∈ l → e x = e' x) → evs e l = evs e' l := by
  intro l
  induction l with
  | nil => intro _; rfl
  | cons x l ih => intro h; simp only [evs]; rw [h x (List.mem_cons_self ..), ih fun y hy => h y (List.mem_cons_of_mem _ hy)]
theorem parts_congr {e e' : AX → AV} : ∀ {l : List (Nat × Nat × AX)}, (∀ x, x ∈ xps l → e x = e' x) → parts e l = parts e' l := by
  intro l
  induction l with
  | nil => intro _; rfl
  | cons p l ih =>
    obtain ⟨a, b, x⟩ := p
    intro h
    simp only [parts]
    rw [h x (List.mem_cons_self ..), ih fun y hy => h y (List.mem_cons_of_mem _ hy)]
theorem optE_congr {e e' : AX → AV} {o : Option AX} (h : ∀ x, x ∈ xo o → e x = e' x) : optE e o = optE e' o := by
  cases o with
  | none => rfl
  | some x => simp only [optE]; rw [h x (List.mem_cons_self ..)]

theorem evalOp_congr {e e' : AX → AV} (op : AOp) (H : AHeap) (h : ∀ x, x ∈ op.xs → e x = e' x) : evalOp e op H = evalOp e' op H := by
  have m : ∀ x, x ∈ op.xs → e x = e' x := h
  cases op <;> simp only [AOp.xs, List.mem_cons, List.mem_append, List.not_mem_nil, or_false, forall_eq_or_imp, forall_eq] at h <;> simp only [evalOp]
  case slice =>
    rw [h.1, optE_congr fun x hx => h.2 x (.inl hx), optE_congr fun x hx => h.2 x (.inr (.inl hx)), optE_congr fun x hx => h.2 x (.inr (.inr hx))]
  case slarr =>
    rw [h.1, optE_congr fun x hx => h.2 x (.inl hx), optE_congr fun x hx => h.2 x (.inr (.inl hx)), optE_congr fun x hx => h.2 x (.inr (.inr hx))]
  case slstr =>
    rw [h.1, optE_congr fun x hx => h.2 x (.inl hx), optE_congr fun x hx => h.2 x (.inr hx)]
  case build => rw [parts_congr h]
  case bslice => rw [parts_congr h]
  case mkfn => rw [evs_congr fun x hx => h x (.inl hx), evs_congr fun x hx => h x (.inr hx)]
  case mx => rw [evs_congr h]
  case mn => rw [evs_congr h]
  all_goals first | rw [h] | simp only [h]

theorem opE_congr {R : Rec} {e e' : AX → AV} (op : AOp) (H : AHeap) (h : ∀ x, x ∈ op.xs → e x = e' x) : opE R op e H = opE R op e' H := by
  cases op
  case call f args => simp only [opE]; rw [evs_congr (l := args) h]
  case callv x args =>
    simp only [opE]
    rw [h x (List.mem_cons_self ..), evs_congr fun y hy => h y (List.mem_cons_of_mem _ hy)]
  all_goals exact evalOp_congr _ H h

/-! what an operation leaves -/
def Grow (H G : AHeap) : Prop := ∀ i o, H.get i = some o → G.get i = some o
theorem Grow.refl (H : AHeap) : Grow H H := fun _ _ h => h
theorem Grow.trans {A B C : AHeap} (h : Grow A B) (k : Grow B C) : Grow A C := fun i o e => k i o (h i o e)
def Fresh (H : AHeap) : Prop := ∀ i, H.nx ≤ i → H.get i = none
theorem Fresh.push {H : AHeap} (h : Fresh H) (o : AObj) : Fresh (H.push o) := fun i hi => by
  simp at hi
  rw [get_push_ne _ _ _ (by omega)]; exact h i (by omega)
theorem Fresh.grow {H : AHeap} (h : Fresh H) (o : AObj) : Grow H (H.push o) := fun i u e => by
  by_cases hi : i = H.nx
  · subst hi; rw [h _ (Nat.le_refl _)] at e; cases e
  · rw [get_push_ne _ _ _ hi]; exact e

theorem opE_plain {R : Rec} {e : AX → AV} {op : AOp} {H : AHeap} (h : isE op = false) : opE R op e H = evalOp e op H := by
  cases op <;> first | rfl | cases h

theorem ret_some {H : AHeap} {r : Option AV} {v : AV} {H' : AHeap} (h : ret H r = some (v, H')) : H' = H ∧ r = some v := by
  cases r <;> cases h
  exact ⟨rfl, rfl⟩

theorem evalOp_pure {e : AX → AV} {op : AOp} {H : AHeap} {v : AV} {H' : AHeap} (h1 : isE op = false) (h2 : isL op = false) (h3 : isA op = false) (h : evalOp e op H = some (v, H')) :
    H' = H ∧ ∀ G, evalOp e op G = some (v, G) := by
  cases op <;> first | (cases h1; done) | (cases h2; done) | (cases h3; done) | skip
  all_goals simp only [evalOp] at h ⊢
  case bad => cases h
  case mov => cases h; exact ⟨rfl, fun _ => rfl⟩
  case pick =>
    unfold opPick at h ⊢
    split at h <;> cases h
    all_goals exact ⟨rfl, fun _ => by simp only [*]⟩
  case build =>
    unfold opBuild at h ⊢
    split at h <;> cases h
    exact ⟨rfl, fun _ => by simp only [*]⟩
  case nilchk =>
    unfold opNilchk at h ⊢
    split at h <;> cases h
    all_goals exact ⟨rfl, fun _ => by simp only [*]⟩
  case mkfn => cases h; exact ⟨rfl, fun _ => rfl⟩
  all_goals (obtain ⟨hh, h'⟩ := ret_some h; exact ⟨hh, fun G => by rw [h']; rfl⟩)

theorem load_grow {H G : AHeap} (hg : Grow H G) {i off n : Nat} {l : List AV} (h : H.load i off n = some l) : G.load i off n = some l := by
  unfold AHeap.load at h ⊢
  split at h <;> first | cases h | skip
  rename_i cs st hc
  rw [hg _ _ hc]
  exact h

theorem evalOp_look {e : AX → AV} {op : AOp} {H : AHeap} {v : AV} {H' : AHeap} (h1 : isL op = true) (h : evalOp e op H = some (v, H')) :
    H' = H ∧ ∀ G, Grow H G → evalOp e op G = some (v, G) := by
  cases op <;> first | (cases h1; done) | skip
  all_goals simp only [evalOp] at h ⊢
  case load x ag n =>
    unfold opLoad at h ⊢
    split at h <;> first | (cases h; done) | skip
    · rename_i xi xo ha
      obtain ⟨hh, h'⟩ := ret_some h
      refine ⟨hh, fun G hg => ?_⟩
      cases hl : AHeap.load H xi xo n with
      | none => rw [hl] at h'; cases h'
      | some l =>
        rw [hl] at h'
        simp only [load_grow hg hl]
        rw [h']; rfl
    · obtain ⟨hh, h'⟩ := ret_some h
      exact ⟨hh, fun G hg => by rw [h']; rfl⟩
  case slarr n es x lo hi mx =>
    unfold opSlarr at h ⊢
    split at h <;> first | (cases h; done) | skip
    · split at h <;> first | (cases h; done) | skip
      rename_i cs st hc
      split at h <;> first | (cases h; done) | skip
      rename_i hb
      obtain ⟨hh, h'⟩ := ret_some h
      refine ⟨hh, fun G hg => ?_⟩
      simp only [hg _ _ hc, hb, if_true]
      rw [h']; rfl
    · split at h <;> first | (cases h; done) | skip
      rename_i hb
      obtain ⟨hh, h'⟩ := ret_some h
      refine ⟨hh, fun G hg => ?_⟩
      simp only [hb, if_true]
      rw [h']; rfl
  case lookup kl z ok m k =>
    unfold opLookup at h ⊢
    split at h <;> first | cases h | skip
    rename_i hk
    simp only [hk, if_true]
    split at h <;> first | (cases h; done) | skip
    · rename_i hm
      cases h
      exact ⟨rfl, fun G _ => by simp only [hm]⟩
    · rename_i i hm
      split at h <;> first | (cases h; done) | skip
      rename_i kl' es ck hg
      split at h <;> cases h
      rename_i hb
      exact ⟨rfl, fun G hg' => by simp only [hm, hg' _ _ hg, hb, if_true]⟩
  case len => obtain ⟨hh, h'⟩ := ret_some h; exact ⟨hh, fun G _ => by rw [h']; rfl⟩

theorem evalOp_load {e : AX → AV} {x : AX} {ag : Bool} {n : Nat} {H : AHeap} {v : AV} {H' : AHeap} (h : evalOp e (.load x ag n) H = some (v, H')) :
    (∀ G, evalOp e (.load x ag n) G = some (v, G)) ∨ ∃ i off vs, e x = .ptr i off ∧ H.load i off n = some vs ∧ ∀ G, G.load i off n = some vs → evalOp e (.load x ag n) G = some (v, G) := by
  simp only [evalOp] at h ⊢
  unfold opLoad at h ⊢
  split at h <;> first | (cases h; done) | skip
  · rename_i xi xo ha
    obtain ⟨hh, h'⟩ := ret_some h
    cases hl : AHeap.load H xi xo n with
    | none => rw [hl] at h'; cases h'
    | some l =>
      rw [hl] at h'
      refine .inr ⟨xi, xo, l, ha, hl, fun G hg => ?_⟩
      simp only [hg]
      rw [h']; rfl
  · obtain ⟨hh, h'⟩ := ret_some h
    exact .inl fun G => by rw [h']; rfl
theorem evalOp_len {e : AX → AV} {x : AX} {st : Bool} {H : AHeap} {v : AV} {H' : AHeap} (h : evalOp e (.len st x) H = some (v, H')) : ∀ G, evalOp e (.len st x) G = some (v, G) := by
  simp only [evalOp] at h ⊢
  obtain ⟨hh, h'⟩ := ret_some h
  intro G
  rw [h']; rfl

theorem evalOp_new {e : AX → AV} {op : AOp} {H : AHeap} {v : AV} {H' : AHeap} (h1 : isN op = true) (h : evalOp e op H = some (v, H')) : ∃ cs, H' = lay cs H := by
  cases op <;> first | (cases h1; done) | skip
  all_goals simp only [evalOp] at h
  case alloc => cases h; exact ⟨_, rfl⟩
  case bslice =>
    unfold opBslice at h
    split at h <;> cases h
    exact ⟨_, rfl⟩
  case mkslice =>
    unfold opMkslice at h
    split at h <;> first | cases h | skip
    split at h <;> cases h
    exact ⟨_, rfl⟩

/-! numbers of paths -/
theorem num_inj : ∀ {p q : List Bool}, num p = num q → p = q := by
  intro p
  induction p with
  | nil => intro q h; cases q with
    | nil => rfl
    | cons b q => cases b <;> simp only [num] at h <;> omega
  | cons a p ih =>
    intro q h
    cases q with
    | nil => cases a <;> simp only [num] at h <;> omega
    | cons b q =>
      cases a <;> cases b <;> simp only [num] at h <;> first | omega | skip
      all_goals rw [ih (q := q) (by omega)]

theorem looksX_mem {e e' : AX → AV} {T T' : Fr} : ∀ {l : List AX}, (∀ p, num p ∈ looksX l → Fr.at_ T p = Fr.at_ T' p) → ∀ x, x ∈ l → ev T x = ev T' x := by
  intro l
  induction l with
  | nil => intro _ x hx; cases hx
  | cons y l ih =>
    intro h x hx
    cases y with
    | t p =>
      simp only [looksX] at h
      rcases List.mem_cons.1 hx with rfl | hx
      · exact h p (List.mem_cons_self ..)
      · exact ih (fun q hq => h q (List.mem_cons_of_mem _ hq)) x hx
    | c v =>
      simp only [looksX] at h
      rcases List.mem_cons.1 hx with rfl | hx
      · rfl
      · exact ih h x hx

/-- two frames that read alike where an operation looks -/
def AlikeF (o : AOper) (T T' : Fr) : Prop := ∀ p, num p ∈ looks o → Fr.at_ T p = Fr.at_ T' p
theorem AlikeF.wants {o : AOper} {T T' : Fr} (h : AlikeF o T T') : wants o.guard T = wants o.guard T' := by
  unfold AlikeF looks at h
  cases hg : o.guard with
  | none => rfl
  | some g =>
    obtain ⟨p, b⟩ := g
    rw [hg] at h
    simp only [AM.wants]
    rw [h p (List.mem_cons_self ..)]
theorem AlikeF.xs {o : AOper} {T T' : Fr} (h : AlikeF o T T') : ∀ x, x ∈ o.op.xs → ev T x = ev T' x := by
  unfold AlikeF looks at h
  refine looksX_mem (e := ev T) (e' := ev T') fun p hp => h p ?_
  split
  · exact List.mem_cons_of_mem _ hp
  · exact hp
theorem AlikeF.opE {R : Rec} {o : AOper} {T T' : Fr} (h : AlikeF o T T') (H : AHeap) : opE R o.op (ev T) H = opE R o.op (ev T') H := opE_congr _ H h.xs
theorem AlikeF.evalOp {o : AOper} {T T' : Fr} (h : AlikeF o T T') (H : AHeap) : evalOp (ev T) o.op H = evalOp (ev T') o.op H := evalOp_congr _ H h.xs

end Go.AM
/- Regions that draw: who comes ahead of whom. -/
namespace Go.AM
open Go

/-! masks -/
theorem maskOf_bit (ms : List Nat) (j : Nat) : ∀ l : List Edge, (maskOf ms l).testBit j = true ↔ ∃ e, e ∈ l ∧ Region.binds .any e = true ∧ (j = e.on ∨ (ms.getD e.on 0).testBit j = true) := by
  intro l
  induction l with
  | nil => simp [maskOf]
  | cons e l ih =>
    simp only [maskOf]
    split
    · rename_i hb
      simp only [Nat.testBit_or, Nat.testBit_two_pow, Bool.or_eq_true, ih, List.mem_cons]
      constructor
      · rintro (h | h | ⟨x, h1, h2⟩)
        · exact ⟨e, .inl rfl, hb, .inl (by simpa using Eq.symm (by simpa using h))⟩
        · exact ⟨e, .inl rfl, hb, .inr h⟩
        · exact ⟨x, .inr h1, h2⟩
      · rintro ⟨x, rfl | h1, h2, h3 | h3⟩
        · exact .inl (by simp [h3])
        · exact .inr (.inl h3)
        · exact .inr (.inr ⟨x, h1, h2, .inl h3⟩)
        · exact .inr (.inr ⟨x, h1, h2, .inr h3⟩)
    · rename_i hb
      rw [ih]
      constructor
      · rintro ⟨x, h1, h2⟩; exact ⟨x, List.mem_cons_of_mem _ h1, h2⟩
      · rintro ⟨x, h1, h2, h3⟩
        rcases List.mem_cons.1 h1 with rfl | h1
        · exact absurd h2 hb
        · exact ⟨x, h1, h2, h3⟩

theorem masksF_pre : ∀ (l : List Oper) (ms : List Nat), ∃ t, masksF l ms = ms ++ t ∧ t.length = l.length := by
  intro l
  induction l with
  | nil => intro ms; exact ⟨[], by simp [masksF]⟩
  | cons o l ih =>
    intro ms
    obtain ⟨t, h1, h2⟩ := ih (ms ++ [maskOf ms o.after.toList])
    exact ⟨maskOf ms o.after.toList :: t, by simp only [masksF, h1, List.append_assoc, List.singleton_append], by simp [h2]⟩

theorem masksF_get : ∀ (l : List Oper) (ms : List Nat) (i : Nat) (o : Oper), l[i]? = some o → (masksF l ms).getD (ms.length + i) 0 = maskOf ((masksF l ms).take (ms.length + i)) o.after.toList := by
  intro l
  induction l with
  | nil => intro ms i o h; simp at h
  | cons x l ih =>
    intro ms i o h
    cases i with
    | zero =>
      simp only [List.getElem?_cons_zero, Option.some.injEq] at h
      subst h
      obtain ⟨t, h1, h2⟩ := masksF_pre l (ms ++ [maskOf ms x.after.toList])
      simp only [masksF, h1, Nat.add_zero, List.append_assoc]
      simp [List.getD_eq_getElem?_getD]
    | succ i =>
      simp only [List.getElem?_cons_succ] at h
      have := ih (ms ++ [maskOf ms x.after.toList]) i o h
      simp only [List.length_append, List.length_singleton] at this
      simp only [masksF]
      rw [show ms.length + (i + 1) = ms.length + 1 + i by omega]
      exact this

theorem masks_bit {l : List Oper} {i j : Nat} (h : ((masks l).getD i 0).testBit j = true) :
    ∃ o e, l[i]? = some o ∧ e ∈ o.after.toList ∧ Region.binds .any e = true ∧ (j = e.on ∨ (e.on < i ∧ ((masks l).getD e.on 0).testBit j = true)) := by
  cases ho : l[i]? with
  | none =>
    obtain ⟨t, h1, h2⟩ := masksF_pre l []
    have hl : l.length ≤ i := by simpa using ho
    have : (masks l).getD i 0 = 0 := by
      unfold masks
      rw [h1, List.getD_eq_getElem?_getD, List.getElem?_eq_none (by simp; omega)]; rfl
    rw [this] at h; simp at h
  | some o =>
    have h1 := masksF_get l [] i o ho
    simp only [List.length_nil, Nat.zero_add] at h1
    have h : ((masksF l []).getD i 0).testBit j = true := h
    rw [h1, maskOf_bit] at h
    obtain ⟨e, a, b, c⟩ := h
    refine ⟨o, e, rfl, a, b, ?_⟩
    rcases c with c | c
    · exact .inl c
    · right
      rw [List.getD_eq_getElem?_getD, List.getElem?_take] at c
      split at c
      · rename_i hlt
        exact ⟨hlt, by unfold masks; rw [List.getD_eq_getElem?_getD]; exact c⟩
      · simp at c

/-- who is listed brings along who is ahead -/
def Closed (l : List Oper) (L : Nat → Bool) : Prop := ∀ i o e, L i = true → l[i]? = some o → e ∈ o.after.toList → Region.binds .any e = true → L e.on = true
theorem Closed.anc {l : List Oper} {L : Nat → Bool} (h : Closed l L) : ∀ (i j : Nat), (∀ o e, l[i]? = some o → e ∈ o.after.toList → Region.binds .any e = true → L e.on = true) →
    ((masks l).getD i 0).testBit j = true → L j = true := by
  intro i
  induction i using Nat.strongRecOn with
  | ind i ih =>
    intro j hi hb
    obtain ⟨o, e, h1, h2, h3, rfl | ⟨h4, h5⟩⟩ := masks_bit hb
    · exact hi o e h1 h2 h3
    · have hl := hi o e h1 h2 h3
      exact ih e.on h4 j (fun o' e' g1 g2 g3 => h e.on o' e' hl g1 g2 g3) h5
theorem Closed.of {l : List Oper} {L : Nat → Bool} (h : Closed l L) {i j : Nat} (hi : L i = true) (hb : ((masks l).getD i 0).testBit j = true) : L j = true :=
  h.anc i j (fun o e a b c => h i o e hi a b c) hb

theorem edgesOk_spec : ∀ (l : List Oper) (k : Nat), edgesOk k l = true → ∀ i o e, l[i]? = some o → e ∈ o.after.toList → Region.binds .any e = true → e.on < k + i := by
  intro l
  induction l with
  | nil => intro k _ i o e h; simp at h
  | cons x l ih =>
    intro k h i o e hi he hb
    simp only [edgesOk, Bool.and_eq_true, List.all_eq_true, Bool.or_eq_true, Bool.not_eq_true', decide_eq_true_eq] at h
    cases i with
    | zero =>
      simp only [List.getElem?_cons_zero, Option.some.injEq] at hi
      subst hi
      rcases h.1 e he with g | g
      · rw [hb] at g; cases g
      · simpa using g
    | succ i =>
      simp only [List.getElem?_cons_succ] at hi
      have := ih (k + 1) h.2 i o e hi he hb
      omega
theorem masks_lt {l : List Oper} (hE : edgesOk 0 l = true) : ∀ (i j : Nat), ((masks l).getD i 0).testBit j = true → j < i := by
  intro i
  induction i using Nat.strongRecOn with
  | ind i ih =>
    intro j h
    obtain ⟨o, e, h1, h2, h3, rfl | ⟨h4, h5⟩⟩ := masks_bit h
    · have := edgesOk_spec l 0 hE i o e h1 h2 h3; omega
    · have := ih e.on h4 j h5; omega

/-! effects -/
theorem effs_mem : ∀ (l : List AOper) (k i : Nat), i ∈ effs k l ↔ ∃ j o, i = k + j ∧ l[j]? = some o ∧ isE o.op = true := by
  intro l
  induction l with
  | nil => intro k i; simp [effs]
  | cons x l ih =>
    intro k i
    have step : (∃ j o, i = k + 1 + j ∧ l[j]? = some o ∧ isE o.op = true) ↔ ∃ j o, i = k + (j + 1) ∧ l[j]? = some o ∧ isE o.op = true := by
      constructor <;> rintro ⟨j, o, rfl, h⟩ <;> exact ⟨j, o, by omega, h⟩
    simp only [effs]
    split
    · rename_i hx
      simp only [List.mem_cons, ih, step]
      constructor
      · rintro (rfl | ⟨j, o, h1, h2, h3⟩)
        · exact ⟨0, x, rfl, rfl, hx⟩
        · exact ⟨j + 1, o, h1, h2, h3⟩
      · rintro ⟨j, o, h1, h2, h3⟩
        cases j with
        | zero => left; omega
        | succ j => right; exact ⟨j, o, h1, by simpa using h2, h3⟩
    · rename_i hx
      simp only [ih, step]
      constructor
      · rintro ⟨j, o, h1, h2, h3⟩; exact ⟨j + 1, o, h1, h2, h3⟩
      · rintro ⟨j, o, h1, h2, h3⟩
        cases j with
        | zero => simp at h2; subst h2; exact absurd h3 hx
        | succ j => exact ⟨j, o, h1, by simpa using h2, h3⟩
theorem effs_ge : ∀ (l : List AOper) (k i : Nat), i ∈ effs k l → k ≤ i := fun l k i h => by
  obtain ⟨j, o, rfl, _⟩ := (effs_mem l k i).1 h; omega
theorem effs_sorted : ∀ (l : List AOper) (k : Nat), (effs k l).Pairwise (· < ·) := by
  intro l
  induction l with
  | nil => intro k; exact .nil
  | cons x l ih =>
    intro k
    simp only [effs]
    split
    · exact List.pairwise_cons.2 ⟨fun i hi => by have := effs_ge _ _ _ hi; omega, ih _⟩
    · exact ih _

theorem loOf_spec (m : Nat) : ∀ (es : List Nat) (j acc : Nat), loOf m j acc es = acc ∨ ∃ i x, es[i]? = some x ∧ loOf m j acc es = j + i + 1 ∧ m.testBit x = true := by
  intro es
  induction es with
  | nil => intro j acc; exact .inl rfl
  | cons e es ih =>
    intro j acc
    simp only [loOf]
    rcases ih (j + 1) (if m.testBit e = true then j + 1 else acc) with h | ⟨i, x, h1, h2, h3⟩
    · rw [h]
      split
      · rename_i hb
        exact .inr ⟨0, e, rfl, rfl, hb⟩
      · exact .inl rfl
    · exact .inr ⟨i + 1, x, h1, by rw [h2]; omega, h3⟩
theorem hiOf_spec (ms : List Nat) (i : Nat) : ∀ (es : List Nat) (j : Nat), hiOf ms i j es = j + es.length ∨ ∃ q x, es[q]? = some x ∧ hiOf ms i j es = j + q ∧ (ms.getD x 0).testBit i = true := by
  intro es
  induction es with
  | nil => intro j; exact .inl rfl
  | cons e es ih =>
    intro j
    simp only [hiOf]
    split
    · rename_i hb
      exact .inr ⟨0, e, rfl, rfl, hb⟩
    · rcases ih (j + 1) with h | ⟨q, x, h1, h2, h3⟩
      · left; rw [h]; simp; omega
      · exact .inr ⟨q + 1, x, h1, by rw [h2]; omega, h3⟩

theorem chained_spec (ms : List Nat) : ∀ (es : List Nat), chained ms es = true → ∀ j a b c, es[j]? = some a → es[j + 1]? = some b → es[j + 2]? = some c → (ms.getD b 0).testBit a = true := by
  intro es
  induction es with
  | nil => intro _ j a b c h; simp at h
  | cons x es ih =>
    intro h j a b c h1 h2 h3
    match es, ih, h, h1, h2, h3 with
    | [], _, _, _, h2, _ => simp at h2
    | [y], _, _, _, _, h3 => simp at h3
    | y :: z :: r, ih, h, h1, h2, h3 =>
      simp only [chained, Bool.and_eq_true] at h
      cases j with
      | zero => simp at h1 h2; subst h1; subst h2; exact h.1
      | succ j => exact ih h.2 j a b c (by simpa using h1) (by simpa using h2) (by simpa using h3)

theorem swapOf_spec (ms : List Nat) : ∀ (es : List Nat), (es.length < 2 ∧ swapOf ms es = none) ∨
    ∃ j a b, j + 2 = es.length ∧ es[j]? = some a ∧ es[j + 1]? = some b ∧ lastTwo es = some (a, b) ∧ swapOf ms es = (if (ms.getD b 0).testBit a then none else some b) := by
  intro es
  induction es with
  | nil => exact .inl ⟨by simp, rfl⟩
  | cons x es ih =>
    match es, ih with
    | [], _ => exact .inl ⟨by simp, rfl⟩
    | [y], _ => exact .inr ⟨0, x, y, rfl, rfl, rfl, rfl, rfl⟩
    | y :: z :: r, ih =>
      rcases ih with ⟨h, _⟩ | ⟨j, a, b, h1, h2, h3, h4, h5⟩
      · simp at h; omega
      · exact .inr ⟨j + 1, a, b, by simp at h1 ⊢; omega, by simpa using h2, by simpa using h3, by rw [← h4]; rfl, by rw [← h5]; rfl⟩

theorem aheadF_spec (a b ma mb : Nat) : ∀ (l : List AOper) (k : Nat), aheadF a b ma mb k l = true → ∀ i o, l[i]? = some o →
    (isL o.op = true ∨ isA o.op = true ∨ (isE o.op = true ∧ k + i ≠ a ∧ k + i ≠ b)) → ma.testBit (k + i) = true ∧ mb.testBit (k + i) = true := by
  intro l
  induction l with
  | nil => intro k _ i o h; simp at h
  | cons x l ih =>
    intro k h i o hi ho
    simp only [aheadF, Bool.and_eq_true, Bool.or_eq_true] at h
    cases i with
    | zero =>
      simp at hi; subst hi
      rcases h.1 with g | g
      · exfalso
        rw [Bool.not_eq_true', Bool.or_eq_false_iff, Bool.or_eq_false_iff] at g
        rcases ho with ho | ho | ⟨h1, h2, h3⟩
        · rw [g.1] at ho; cases ho
        · rw [g.2.1] at ho; cases ho
        · have e1 : Nat.beq k a = false := by
            cases e : Nat.beq k a with
            | false => rfl
            | true => exact absurd (Nat.eq_of_beq_eq_true e) (by simpa using h2)
          have e2 : Nat.beq k b = false := by
            cases e : Nat.beq k b with
            | false => rfl
            | true => exact absurd (Nat.eq_of_beq_eq_true e) (by simpa using h3)
          have := g.2.2
          rw [h1, e1, e2] at this
          cases this
      · exact g
    | succ i =>
      have := ih (k + 1) h.2 i o (by simpa using hi) (by rw [show k + 1 + i = k + (i + 1) by omega]; exact ho)
      rw [show k + (i + 1) = k + 1 + i by omega]; exact this

/-! kinds -/
theorem kindsF_get (ms es : List Nat) (sw : Option Nat) : ∀ (l : List AOper) (k i : Nat) (d : DK) (o : AOper), (kindsF ms es sw k l)[i]? = some (d, o) → l[i]? = some o ∧
    d = (if isE o.op then (if sw == some (k + i) then .e2 else .e) else if isL o.op then .l (loOf (ms.getD (k + i) 0) 0 0 es) (hiOf ms (k + i) 0 es)
      else if isA o.op then (if loOf (ms.getD (k + i) 0) 0 0 es = hiOf ms (k + i) 0 es then .p else .pre (loOf (ms.getD (k + i) 0) 0 0 es) (hiOf ms (k + i) 0 es)) else .p) := by
  intro l
  induction l with
  | nil => intro k i d o h; simp [kindsF] at h
  | cons x l ih =>
    intro k i d o h
    simp only [kindsF] at h
    cases i with
    | zero =>
      simp only [List.getElem?_cons_zero, Option.some.injEq] at h
      simp only [List.getElem?_cons_zero, Option.some.injEq, Nat.add_zero]
      by_cases h1 : isE x.op = true
      · by_cases h2 : (sw == some k) = true
        · rw [if_pos h1, if_pos h2] at h; cases h; exact ⟨rfl, by rw [if_pos h1, if_pos h2]⟩
        · rw [if_pos h1, if_neg h2] at h; cases h; exact ⟨rfl, by rw [if_pos h1, if_neg h2]⟩
      · rw [if_neg h1] at h
        by_cases h2 : isL x.op = true
        · rw [if_pos h2] at h; cases h; exact ⟨rfl, by rw [if_neg h1, if_pos h2]⟩
        · rw [if_neg h2] at h
          by_cases h3 : isA x.op = true
          · rw [if_pos h3] at h
            split at h
            · rename_i h4; cases h; exact ⟨rfl, by rw [if_neg h1, if_neg h2, if_pos h3, if_pos h4]⟩
            · rename_i h4; cases h; exact ⟨rfl, by rw [if_neg h1, if_neg h2, if_pos h3, if_neg h4]⟩
          · rw [if_neg h3] at h; cases h; exact ⟨rfl, by rw [if_neg h1, if_neg h2, if_neg h3]⟩
    | succ i =>
      simp only [List.getElem?_cons_succ] at h ⊢
      have := ih (k + 1) i d o h
      rw [show k + 1 + i = k + (i + 1) by omega] at this
      exact this
theorem kindsF_length (ms es : List Nat) (sw : Option Nat) : ∀ (l : List AOper) (k : Nat), (kindsF ms es sw k l).length = l.length := by
  intro l
  induction l with
  | nil => intro k; rfl
  | cons x l ih => intro k; simp only [kindsF, List.length_cons, ih]

/-! temporaries -/
theorem orderly_spec {ms : List Nat} {i mi t : Nat} : ∀ {ws : List (Nat × Nat)}, orderly ms i mi t ws = true → ∀ w, w ∈ ws → w.2 = t → w.1 = i ∨ (w.1 < i ∧ mi.testBit w.1 = true) ∨ (i < w.1 ∧ (ms.getD w.1 0).testBit i = true) := by
  intro ws
  induction ws with
  | nil => intro _ w h; cases h
  | cons x ws ih =>
    intro h w hw ht
    simp only [orderly, Bool.and_eq_true] at h
    rcases List.mem_cons.1 hw with rfl | hw
    · have h := h.1
      rw [if_pos (by rw [ht]; exact Nat.beq_refl t)] at h
      split at h
      · rename_i e; exact .inl (Nat.eq_of_beq_eq_true e)
      · rename_i e
        have e : w.1 ≠ i := fun e' => e (by rw [e']; exact Nat.beq_refl i)
        split at h
        · rename_i hlt; exact .inr (.inl ⟨by simpa [Nat.blt_eq] using hlt, h⟩)
        · rename_i hlt
          have : ¬ w.1 < i := by simpa [Nat.blt_eq] using hlt
          exact .inr (.inr ⟨by omega, h⟩)
    · exact ih h.2 w hw ht
theorem orderlyAll_spec {ms : List Nat} {ws : List (Nat × Nat)} {i mi : Nat} : ∀ {ts : List Nat}, orderlyAll ms ws i mi ts = true → ∀ t, t ∈ ts → orderly ms i mi t ws = true := by
  intro ts
  induction ts with
  | nil => intro _ t h; cases h
  | cons x ts ih =>
    intro h t ht
    simp only [orderlyAll, Bool.and_eq_true] at h
    rcases List.mem_cons.1 ht with rfl | ht
    · exact h.1
    · exact ih h.2 t ht
theorem alone_spec {i t : Nat} : ∀ {ws : List (Nat × Nat)}, alone i t ws = true → ∀ w, w ∈ ws → w.2 = t → w.1 = i := by
  intro ws
  induction ws with
  | nil => intro _ w h; cases h
  | cons x ws ih =>
    intro h w hw ht
    simp only [alone, Bool.and_eq_true] at h
    rcases List.mem_cons.1 hw with rfl | hw
    · have h := h.1
      rw [if_pos (by rw [ht]; exact Nat.beq_refl t)] at h
      exact Nat.eq_of_beq_eq_true h
    · exact ih h.2 w hw ht
theorem writersF_mem : ∀ (l : List AOper) (k i : Nat) (o : AOper) (d : List Bool), l[i]? = some o → o.dst = some d → (k + i, num d) ∈ writersF k l := by
  intro l
  induction l with
  | nil => intro k i o d h; simp at h
  | cons x l ih =>
    intro k i o d h hd
    cases i with
    | zero => simp at h; subst h; simp only [writersF, hd]; simp
    | succ i =>
      have := ih (k + 1) i o d (by simpa using h) hd
      rw [show k + 1 + i = k + (i + 1) by omega] at this
      simp only [writersF]
      split
      · exact List.mem_cons_of_mem _ this
      · exact this
theorem tmpsOk_spec {ms : List Nat} {ws : List (Nat × Nat)} : ∀ {l : List AOper} {k : Nat}, tmpsOk ms ws k l = true → ∀ i o, l[i]? = some o →
    orderlyAll ms ws (k + i) (ms.getD (k + i) 0) (looks o) = true ∧ ∀ d, o.dst = some d → alone (k + i) (num d) ws = true := by
  intro l
  induction l with
  | nil => intro k _ i o h; simp at h
  | cons x l ih =>
    intro k h i o hi
    simp only [tmpsOk, Bool.and_eq_true] at h
    cases i with
    | zero =>
      simp at hi; subst hi
      refine ⟨h.1.1, fun d hd => ?_⟩
      have := h.1.2
      rw [hd] at this
      exact this
    | succ i =>
      have := ih h.2 i o (by simpa using hi)
      rw [show k + 1 + i = k + (i + 1) by omega] at this
      exact this

theorem floatsOk_spec : ∀ {ks : List (DK × AOper)}, floatsOk ks = true → ∀ (i : Nat) (d : DK) (o : AOper), ks[i]? = some (d, o) →
    (d = .p → isA o.op = true → isN o.op = true) ∧ (∀ a b, d = .l a b → a = b ∨ (∃ x ag n, o.op = .load x ag n) ∨ ∃ st x, o.op = .len st x) := by
  intro ks
  induction ks with
  | nil => intro _ i d o h; simp at h
  | cons x ks ih =>
    intro h i d o hi
    cases i with
    | zero =>
      simp at hi; subst hi
      cases d with
      | p =>
        simp only [floatsOk, Bool.and_eq_true, Bool.or_eq_true, Bool.not_eq_true'] at h
        refine ⟨fun _ ha => ?_, fun a b e => (by cases e)⟩
        rcases h.1 with g | g
        · rw [ha] at g; cases g
        · exact g
      | l a b =>
        simp only [floatsOk, Bool.and_eq_true, Bool.or_eq_true, beq_iff_eq] at h
        refine ⟨fun e => (by cases e), fun a b e => ?_⟩
        cases e
        rcases h.1 with g | g
        · exact .inl g
        · right
          split at g
          · exact .inl ⟨_, _, _, by assumption⟩
          · exact .inr ⟨_, _, by assumption⟩
          · cases g
      | _ => exact ⟨fun e => (by cases e), fun a b e => (by cases e)⟩
    | succ i =>
      have h' : floatsOk ks = true := by
        obtain ⟨d', o'⟩ := x
        cases d' <;> simp only [floatsOk, Bool.and_eq_true] at h <;> first | exact h | exact h.2
      exact ih h' i d o (by simpa using hi)

end Go.AM
/- Regions that draw: the run in the text's order, told position by position; a block that is taken up under a number that waits for it. -/
namespace Go.AM
open Go Go.RowKit

def shift {α : Type} (x : α) (f : Nat → α) : Nat → α
  | 0 => x
  | i + 1 => f i

def isEK : DK → Bool
  | .e => true
  | .e2 => true
  | _ => false
def posE : Nat → List (DK × AOper) → List Nat
  | _, [] => []
  | i, x :: r => if isEK x.1 then i :: posE (i + 1) r else posE (i + 1) r

def StepIs (R : Rec) (rs rs1 : List Rcd) (p q : Nat) (d : DK) (o : AOper) (id : Nat) (T : Fr) (H : AHeap) (T' : Fr) (H' : AHeap) : Prop :=
  match d with
  | .pre a b => H' = H ∧ T' = putD o.dst (.ptr id 0) T ∧ o.guard = none ∧ p ≤ id ∧ id < q ∧ ∃ cs, o.op = .alloc cs ∧ Rcd.fresh id cs a b ∈ rs1
  | .l a b => operRun R o T H = some (T', H') ∧ (a ≠ b → ∀ c, c ∈ rcdOf a b o T H → c ∈ rs)
  | _ => operRun R o T H = some (T', H')

theorem StepIs.mono {R : Rec} {rs rs1 rs' rs1' : List Rcd} {p q p' q' : Nat} {d : DK} {o : AOper} {id : Nat} {T T' : Fr} {H H' : AHeap} (h : StepIs R rs rs1 p q d o id T H T' H')
    (h1 : ∀ c, c ∈ rs → c ∈ rs') (h2 : ∀ c, c ∈ rs1 → c ∈ rs1') (h3 : p' ≤ p) (h4 : q ≤ q') : StepIs R rs' rs1' p' q' d o id T H T' H' := by
  cases d with
  | pre a b => obtain ⟨a1, a2, a3, a4, a5, cs, a6, a7⟩ := h; exact ⟨a1, a2, a3, by omega, by omega, cs, a6, h2 _ a7⟩
  | l a b => exact ⟨h.1, fun hn c hc => h1 _ (h.2 hn c hc)⟩
  | _ => exact h

theorem preRun_nx : ∀ {ks : List (DK × AOper)} {H H' : AHeap} {ids : List Nat} {rs : List Rcd}, preRun ks H = some (H', ids, rs) → H.nx ≤ H'.nx := by
  intro ks
  induction ks with
  | nil => intro H H' ids rs h; simp only [preRun] at h; cases h; exact Nat.le_refl _
  | cons x ks ih =>
    intro H H' ids rs h
    obtain ⟨d, o⟩ := x
    cases d with
    | pre a b =>
      simp only [preRun] at h
      split at h <;> first | (cases h; done) | skip
      split at h <;> cases h
      rename_i s hs
      have := ih (H' := s.1) (ids := s.2.1) (rs := s.2.2) hs
      simp at this; omega
    | _ => simp only [preRun] at h; exact ih h

theorem preRun_hr {P : Program} {B : Nat} {w0 : World} {pr : List Nat} {β : Beta} {w : World} : ∀ {ks : List (DK × AOper)} {H H' : AHeap} {ids : List Nat} {rs : List Rcd}, preRun ks H = some (H', ids, rs) →
    HR P B w0 pr β H w → HR P B w0 pr β H' w := by
  intro ks
  induction ks with
  | nil => intro H H' ids rs h hr; simp only [preRun] at h; cases h; exact hr
  | cons x ks ih =>
    intro H H' ids rs h hr
    obtain ⟨d, o⟩ := x
    cases d with
    | pre a b =>
      simp only [preRun] at h
      split at h <;> first | (cases h; done) | skip
      split at h <;> cases h
      rename_i s hs
      exact ih (H' := s.1) (ids := s.2.1) (rs := s.2.2) hs (hr.ghost _)
    | _ => simp only [preRun] at h; exact ih h hr

structure Trace (R : Rec) (ks : List (DK × AOper)) (prev : Option Nat) (p q : Nat) (rs1 : List Rcd) (T : Fr) (H : AHeap) (r : DRes) (Tf : Nat → Fr) (Hf : Nat → AHeap) (idf : Nat → Nat) : Prop where
  t0 : Tf 0 = T
  h0 : Hf 0 = H
  tn : Tf ks.length = r.T
  hn : Hf ks.length = r.H
  step : ∀ i d o, ks[i]? = some (d, o) → StepIs R r.rs rs1 p q d o (idf i) (Tf i) (Hf i) (Tf (i + 1)) (Hf (i + 1))
  lt : ∀ i j a b o a' b' o', i < j → ks[i]? = some (.pre a b, o) → ks[j]? = some (.pre a' b', o') → idf i < idf j
  gs : ∀ k, r.Gs = (posE k ks).map (fun i => Hf (i - k)) ++ [Hf ks.length]
  e2 : ∀ (j : Nat) (o : AOper), ks[j]? = some (.e2, o) →
    (∃ i o', i < j ∧ ks[i]? = some (.e, o') ∧ (∀ q d u, i < q → q < j → ks[q]? = some (d, u) → isEK d = false) ∧ differ (storeId o' (Tf i)) (storeId o (Tf j)) = true) ∨
    ((∀ q d u, q < j → ks[q]? = some (d, u) → isEK d = false) ∧ differ prev (storeId o (Tf j)) = true)

theorem posE_ge : ∀ (ks : List (DK × AOper)) (k i : Nat), i ∈ posE k ks → k ≤ i := by
  intro ks
  induction ks with
  | nil => intro k i h; cases h
  | cons x ks ih =>
    intro k i h
    simp only [posE] at h
    split at h
    · rcases List.mem_cons.1 h with rfl | h
      · exact Nat.le_refl _
      · have := ih _ _ h; omega
    · have := ih _ _ h; omega

/-- one operation ahead of a run that is told -/
theorem Trace.cons {R : Rec} {ks : List (DK × AOper)} {prev prev' : Option Nat} {p q p' q' : Nat} {rs1 rs1' : List Rcd} {T T' : Fr} {H H' : AHeap} {r r' : DRes} {Tf : Nat → Fr} {Hf : Nat → AHeap} {idf : Nat → Nat}
    (h : Trace R ks prev' p' q' rs1' T' H' r' Tf Hf idf) {d : DK} {o : AOper} {id : Nat} (hs : StepIs R r.rs rs1 p q d o id T H T' H') (hT : r.T = r'.T) (hH : r.H = r'.H) (hrs : ∀ c, c ∈ r'.rs → c ∈ r.rs) (hrs1 : ∀ c, c ∈ rs1' → c ∈ rs1)
    (hp : p ≤ p') (hq : q' ≤ q) (hlt : ∀ a b, d = .pre a b → id < p') (hgs : r.Gs = if isEK d then H :: r'.Gs else r'.Gs)
    (hprev : (isEK d = false → prev' = prev) ∧ (d = .e → prev' = storeId o T) ∧ (d = .e2 → prev' = none ∧ differ prev (storeId o T) = true)) :
    Trace R ((d, o) :: ks) prev p q rs1 T H r (shift T Tf) (shift H Hf) (shift id idf) := by
  have st : ∀ i d' o', ((d, o) :: ks)[i]? = some (d', o') → StepIs R r.rs rs1 p q d' o' (shift id idf i) (shift T Tf i) (shift H Hf i) (shift T Tf (i + 1)) (shift H Hf (i + 1)) := by
    intro i d' o' hi
    cases i with
    | zero =>
      simp only [List.getElem?_cons_zero, Option.some.injEq, Prod.mk.injEq] at hi
      obtain ⟨rfl, rfl⟩ := hi
      simp only [shift, h.t0, h.h0]; exact hs
    | succ i =>
      simp only [List.getElem?_cons_succ] at hi
      exact (h.step i d' o' hi).mono hrs hrs1 hp hq
  refine { t0 := rfl, h0 := rfl, tn := by simp only [List.length_cons, shift, hT]; exact h.tn, hn := by simp only [List.length_cons, shift, hH]; exact h.hn, step := st, lt := ?_, gs := ?_, e2 := ?_ }
  · intro i j a b u a' b' u' hij hi hj
    cases j with
    | zero => omega
    | succ j =>
      simp only [List.getElem?_cons_succ] at hj
      cases i with
      | zero =>
        simp only [List.getElem?_cons_zero, Option.some.injEq, Prod.mk.injEq] at hi
        have h1 := hlt a b hi.1
        have h2 := h.step j _ _ hj
        obtain ⟨_, _, _, h3, _⟩ := h2
        simp only [shift]; omega
      | succ i => exact h.lt i j a b u a' b' u' (by omega) (by simpa using hi) hj
  · intro k
    have h1 := h.gs (k + 1)
    have key : (posE (k + 1) ks).map (fun i => shift H Hf (i - k)) = (posE (k + 1) ks).map (fun i => Hf (i - (k + 1))) := by
      refine List.map_congr_left fun i hi => ?_
      have := posE_ge _ _ _ hi
      rw [show i - k = (i - (k + 1)) + 1 by omega]; rfl
    have e : shift H Hf ((d, o) :: ks).length = Hf ks.length := rfl
    rw [hgs, e]
    simp only [posE]
    split
    · rw [List.map_cons, key, Nat.sub_self, h1]; rfl
    · rw [key, h1]
  · intro j u hj
    cases j with
    | zero =>
      simp only [List.getElem?_cons_zero, Option.some.injEq, Prod.mk.injEq] at hj
      obtain ⟨rfl, rfl⟩ := hj
      exact .inr ⟨fun q d u hq => by omega, (hprev.2.2 rfl).2⟩
    | succ j =>
      simp only [List.getElem?_cons_succ] at hj
      rcases h.e2 j u hj with ⟨i, o', h1, h2, h3, h4⟩ | ⟨h1, h2⟩
      · refine .inl ⟨i + 1, o', by omega, by simpa using h2, fun q d' u' hq1 hq2 hq => ?_, h4⟩
        cases q with
        | zero => omega
        | succ q => exact h3 q d' u' (by omega) (by omega) (by simpa using hq)
      · cases hd : isEK d with
        | false =>
          right
          refine ⟨fun q d' u' hq hq2 => ?_, by rw [← hprev.1 hd]; exact h2⟩
          cases q with
          | zero => simp at hq2; rw [← hq2.1]; exact hd
          | succ q => exact h1 q d' u' (by omega) (by simpa using hq2)
        | true =>
          cases d with
          | e =>
            left
            refine ⟨0, o, by omega, rfl, fun q d' u' hq1 hq2 hq => ?_, by rw [hprev.2.1 rfl] at h2; exact h2⟩
            cases q with
            | zero => omega
            | succ q => exact h1 q d' u' (by omega) (by simpa using hq)
          | e2 =>
            rw [(hprev.2.2 rfl).1] at h2
            simp [differ] at h2
          | _ => cases hd

theorem trace {R : Rec} : ∀ {ks : List (DK × AOper)} {Hp Hq : AHeap} {ids : List Nat} {rs1 : List Rcd} {prev : Option Nat} {T : Fr} {H : AHeap} {r : DRes},
    preRun ks Hp = some (Hq, ids, rs1) → drawRun R prev ids ks T H = some r → ∃ Tf Hf idf, Trace R ks prev Hp.nx Hq.nx rs1 T H r Tf Hf idf := by
  intro ks
  induction ks with
  | nil =>
    intro Hp Hq ids rs1 prev T H r h1 h2
    simp only [drawRun] at h2
    cases h2
    exact ⟨fun _ => T, fun _ => H, fun _ => 0, { t0 := rfl, h0 := rfl, tn := rfl, hn := rfl, step := fun i d o h => by simp at h, lt := fun i j a b o a' b' o' _ h => by simp at h, gs := fun k => rfl, e2 := fun j o h => by simp at h }⟩
  | cons x ks ih =>
    intro Hp Hq ids rs1 prev T H r h1 h2
    obtain ⟨d, o⟩ := x
    cases d with
    | pre a b =>
      simp only [preRun] at h1
      split at h1 <;> first | (cases h1; done) | skip
      rename_i cs hg hop
      split at h1 <;> cases h1
      rename_i s hs
      simp only [drawRun] at h2
      obtain ⟨Tf, Hf, idf, ht⟩ := ih (Hq := s.1) (ids := s.2.1) (rs1 := s.2.2) hs h2
      have hnx := preRun_nx (H' := s.1) (ids := s.2.1) (rs := s.2.2) hs
      simp at hnx
      exact ⟨_, _, _, ht.cons (id := Hp.nx) (p := Hp.nx) (q := s.1.nx) (rs1 := .fresh Hp.nx cs a b :: s.2.2) (T := T) (H := H) (r := r) ⟨rfl, rfl, hg, Nat.le_refl _, by omega, cs, hop, List.mem_cons_self ..⟩ rfl rfl (fun c h => h) (fun c h => List.mem_cons_of_mem _ h)
        (by simp) (Nat.le_refl _) (fun _ _ _ => by simp) rfl ⟨fun _ => rfl, fun e => (by cases e), fun e => (by cases e)⟩⟩
    | e =>
      simp only [preRun] at h1
      simp only [drawRun] at h2
      split at h2 <;> first | (cases h2; done) | skip
      rename_i s hs
      unfold DRes.stage at h2
      split at h2 <;> cases h2
      rename_i r' hr'
      obtain ⟨Tf, Hf, idf, ht⟩ := ih h1 hr'
      exact ⟨_, _, _, ht.cons (id := 0) (prev := prev) (show StepIs R _ _ _ _ .e o 0 T H s.1 s.2 from hs) rfl rfl (fun c h => h) (fun c h => h) (Nat.le_refl _) (Nat.le_refl _) (fun _ _ e => (by cases e)) rfl ⟨fun e => (by cases e), fun _ => rfl, fun e => (by cases e)⟩⟩
    | e2 =>
      simp only [preRun] at h1
      simp only [drawRun] at h2
      split at h2 <;> first | (cases h2; done) | skip
      rename_i hd
      split at h2 <;> first | (cases h2; done) | skip
      rename_i s hs
      unfold DRes.stage at h2
      split at h2 <;> cases h2
      rename_i r' hr'
      obtain ⟨Tf, Hf, idf, ht⟩ := ih h1 hr'
      exact ⟨_, _, _, ht.cons (id := 0) (prev := prev) (show StepIs R _ _ _ _ .e2 o 0 T H s.1 s.2 from hs) rfl rfl (fun c h => h) (fun c h => h) (Nat.le_refl _) (Nat.le_refl _) (fun _ _ e => (by cases e)) rfl ⟨fun e => (by cases e), fun e => (by cases e), fun _ => ⟨rfl, hd⟩⟩⟩
    | l a b =>
      simp only [preRun] at h1
      simp only [drawRun] at h2
      split at h2 <;> first | (cases h2; done) | skip
      rename_i s hs
      unfold DRes.note at h2
      split at h2 <;> cases h2
      rename_i r' hr'
      obtain ⟨Tf, Hf, idf, ht⟩ := ih h1 hr'
      refine ⟨_, _, _, ht.cons (id := 0) (prev := prev) (show StepIs R _ _ _ _ (.l a b) o 0 T H s.1 s.2 from ⟨hs, fun hn c hc => ?_⟩) rfl rfl (fun c h => List.mem_append_right _ h) (fun c h => h) (Nat.le_refl _) (Nat.le_refl _) (fun _ _ e => (by cases e)) rfl ⟨fun _ => rfl, fun e => (by cases e), fun e => (by cases e)⟩⟩
      refine List.mem_append_left _ ?_
      rw [if_neg (fun e => hn (Nat.eq_of_beq_eq_true e))]
      exact hc
    | p =>
      simp only [preRun] at h1
      simp only [drawRun] at h2
      split at h2 <;> first | (cases h2; done) | skip
      rename_i s hs
      obtain ⟨Tf, Hf, idf, ht⟩ := ih h1 h2
      exact ⟨_, _, _, ht.cons (id := 0) (prev := prev) (show StepIs R _ _ _ _ .p o 0 T H s.1 s.2 from hs) rfl rfl (fun c h => h) (fun c h => h) (Nat.le_refl _) (Nat.le_refl _) (fun _ _ e => (by cases e)) rfl ⟨fun _ => rfl, fun e => (by cases e), fun e => (by cases e)⟩⟩

/-! a block taken up -/
section
variable {P : Program} {B : Nat} {w0 : World} {pr : List Nat} {β : Beta} {H : AHeap} {w : World}

theorem HR.adopt (h : HR P B w0 pr β H w) {id : Nat} {cs : List AV} {c : Array Value} {t : TypeId} (hn : β id = none) (hg : H.get id = some (.cells cs .own)) (hlt : id < H.nx) (hc : VRs β cs c.toList) :
    HR P B w0 pr (β.add id (w.heap.size, 0, c.size)) H (w.alloc (.cells c t)) := by
  have ext := β.add_ext id (w.heap.size, 0, c.size) hn
  have hb : Below w.heap.size w (w.alloc (.cells c t)) := (Below.refl _ _).alloc (Nat.le_refl _) _
  have old : ∀ i y, (β.add id (w.heap.size, 0, c.size)) i = some y → i ≠ id → β i = some y := fun i y e hi => by rw [Beta.add_ne _ _ _ _ hi] at e; exact e
  have keep : ∀ k, k < w.heap.size → (w.alloc (.cells c t)).heap[k]? = w.heap[k]? := fun k hk => hb.block k hk
  refine { below := h.below.trans (hb.mono h.base), base := by have := h.base; simp; omega, dom := fun i y e => ?_, free := h.free, inj := ?_, obj := fun i y u e g => ?_, prs := fun d hd => ?_, blk := fun i y e => ?_ }
  · by_cases hi : i = id
    · subst hi; exact hlt
    · exact h.dom _ _ (old i y e hi)
  · intro i j x y o u hij ei ej gi gj lo lu
    by_cases hi : i = id
    · subst hi
      rw [Beta.add_same] at ei; cases ei
      have := h.blk j y (old j y ej (Ne.symm hij))
      simp; omega
    · by_cases hj : j = id
      · subst hj
        rw [Beta.add_same] at ej; cases ej
        have := h.blk i x (old i x ei hi)
        simp; omega
      · exact h.inj i j x y o u hij (old i x ei hi) (old j y ej hj) gi gj lo lu
  · by_cases hi : i = id
    · subst hi
      rw [Beta.add_same] at e; cases e
      rw [hg] at g; cases g
      have hl := hc.length
      simp only [Array.length_toList] at hl
      refine ⟨c, t, (0, 0), heap_alloc_new w _, rfl, by simp [hl], fun k v hk => ?_, fun _ => ⟨h.base, rfl⟩⟩
      obtain ⟨u, a, b⟩ := hc.get k v hk
      exact ⟨u, by simpa using a, b.mono ext⟩
    · have e' := old i y e hi
      exact ((h.obj i y u e' g).mono ext).of_block (keep _ (h.blk i y e'))
  · have h1 := h.prs d hd
    have : d < w.heap.size := (Array.getElem?_eq_some_iff.1 h1.2).1
    exact ⟨h1.1, (keep d this).trans h1.2⟩
  · by_cases hi : i = id
    · subst hi; rw [Beta.add_same] at e; cases e; simp
    · have := h.blk i y (old i y e hi); simp; omega

theorem HR.same {H' : AHeap} (h : HR P B w0 pr β H w) (h1 : ∀ i, H'.get i = H.get i) (h2 : H'.nx = H.nx) : HR P B w0 pr β H' w :=
  { below := h.below, base := h.base, dom := fun i x e => by rw [h2]; exact h.dom i x e, free := fun i hi => by rw [h1]; exact h.free i (by omega)
    inj := fun i j x y o u hij ei ej gi gj => h.inj i j x y o u hij ei ej (by rw [← h1]; exact gi) (by rw [← h1]; exact gj)
    obj := fun i x o e g => h.obj i x o e (by rw [← h1]; exact g), prs := h.prs, blk := h.blk }

theorem new_sound (e : AX → AV) (ρ : Operand → Value) (o : Oper) (hρ : ∀ x, x ∈ o.op.operands.toList → VR β (e (cx x)) (ρ x)) (hN : isN (cop P o) = true) {v : AV} {H H' : AHeap} (he : evalOp e (cop P o) H = some (v, H')) :
    ∃ cs, H' = lay cs H ∧ ∃ (c : Array Value) (t : TypeId) (u : Value), (execOp ρ o).run P w = .ok (.value u) (w.alloc (.cells c t)) ∧ VRs β cs c.toList ∧ ∀ β' : Beta, β' H.nx = some (w.heap.size, 0, c.size) → VR β' v u := by
  have fin : ∀ {s : Sem Value} {cs : List AV} {vf : Nat → AV}, AllocV P β w s cs vf → v = vf H.nx → ∃ (c : Array Value) (t : TypeId) (u : Value), (do pure (.value (← s)) : Sem Next).run P w = .ok (.value u) (w.alloc (.cells c t)) ∧ VRs β cs c.toList ∧ ∀ β' : Beta, β' H.nx = some (w.heap.size, 0, c.size) → VR β' v u := by
    intro s cs vf h hv
    subst hv
    obtain ⟨c, t, u, h1, h2, h3⟩ := h
    exact ⟨c, t, u, by simp only [Sem.run_bind, h1, Result.andThen_ok, Sem.run_pure], h2, fun β' hb => h3 β' _ hb⟩
  obtain ⟨dst, op, type, pos, after, guard⟩ := o
  simp only at hρ
  have mem : ∀ {x : Operand}, x ∈ op.operands → VR β (e (cx x)) (ρ x) := fun hx => hρ _ (by simpa using hx)
  cases op <;> simp only [Op.operands] at mem <;> simp only [cop] at hN he <;> simp only [execOp]
  case alloc t =>
    split at he <;> first | (cases he; done) | skip
    cases he
    exact ⟨_, rfl, fin (alloc_alloc ‹_› _) rfl⟩
  case buildSlice t len ps =>
    have hp : ∀ p, p ∈ ps.toList → VR β (e (cx p.2)) (ρ p.2) := fun p hp => mem (by simp; exact ⟨p.1, by simpa using hp⟩)
    split at he <;> first | (cases he; done) | skip
    split at he <;> first | (cases he; done) | skip
    split at he <;> first | (cases he; done) | skip
    rename_i hc
    split at he <;> first | (cases he; done) | skip
    obtain ⟨cs, h1, h2, h3⟩ := bslice_alloc (P := P) (w := w) ‹_› ‹_› ‹_› hc.1 hc.2.1 hc.2.2 e ρ ps ‹_› hp he
    exact ⟨cs, h1, fin h3 h2⟩
  case makeSlice t l c =>
    split at he <;> first | (cases he; done) | skip
    split at he <;> first | (cases he; done) | skip
    split at he <;> first | (cases he; done) | skip
    rename_i hc
    obtain ⟨cs, vf, h1, h2, h3⟩ := mkslice_alloc (P := P) (w := w) ‹_› ‹_› ‹_› ‹_› hc.1 hc.2 (mem (x := l) (by simp)) (mem (x := c) (by simp)) he
    exact ⟨cs, h1, fin h3 h2⟩
  case makeFunc fn a b => exfalso; cases fn <;> simp only [cop] at hN <;> cases hN
  case makeMap t r => exfalso; cases r <;> simp only [cop] at hN <;> (repeat' split at hN) <;> cases hN
  case call c => exfalso; unfold ccall at hN; (repeat' split at hN) <;> cases hN
  case binOp op t x y yt => exfalso; unfold cbin at hN; (repeat' split at hN) <;> cases hN
  all_goals (exfalso; (repeat' split at hN) <;> cases hN)

end
end Go.AM
/- A region that draws: whatever order is drawn, what the text's order gives comes out. -/
namespace Go.AM
open Go Go.RowKit

/-! two stores to two blocks -/
theorem storeId_inv {o : AOper} {T : Fr} {i : Nat} (h : storeId o T = some i) : o.guard = none ∧ ∃ x v n off, o.op = .store x v n ∧ ev T x = .ptr i off := by
  unfold storeId at h
  split at h <;> first | (cases h; done) | skip
  rename_i x v n hg hop
  split at h <;> cases h
  rename_i off hx
  exact ⟨hg, x, v, n, off, hop, hx⟩
theorem differ_inv {a b : Option Nat} (h : differ a b = true) : ∃ i j, a = some i ∧ b = some j ∧ i ≠ j := by
  cases a with
  | none => cases h
  | some i =>
    cases b with
    | none => cases h
    | some j =>
      refine ⟨i, j, rfl, rfl, fun e => ?_⟩
      subst e
      simp [differ] at h

theorem store_inv {e : AX → AV} {x v : AX} {n : Nat} {H H' : AHeap} {u : AV} (h : evalOp e (.store x v n) H = some (u, H')) {i off : Nat} (hx : e x = .ptr i off) :
    u = .undef ∧ ∃ cs l, H.get i = some (.cells cs .own) ∧ H' = H.put i (.cells l .own) ∧ ∀ G, G.get i = some (.cells cs .own) → evalOp e (.store x v n) G = some (.undef, G.put i (.cells l .own)) := by
  simp only [evalOp, opStore, hx, asP] at h ⊢
  split at h <;> first | (cases h; done) | skip
  rename_i vs hvs
  unfold storeCs at h ⊢
  split at h <;> first | (cases h; done) | skip
  rename_i hck
  unfold AHeap.store at h ⊢
  split at h <;> first | (cases h; done) | skip
  rename_i cs hg
  split at h <;> first | (cases h; done) | skip
  rename_i l hl
  simp only [retH] at h
  cases h
  exact ⟨rfl, cs, l, hg, rfl, fun G hG => by simp only [hG, hl, hck, if_true, retH]⟩

theorem store_swap {e e' : AX → AV} {x v x' v' : AX} {n n' : Nat} {H H1 H2 : AHeap} {u u' : AV} (h1 : evalOp e (.store x v n) H = some (u, H1)) (h2 : evalOp e' (.store x' v' n') H1 = some (u', H2))
    {i j off off' : Nat} (hx : e x = .ptr i off) (hx' : e' x' = .ptr j off') (hij : i ≠ j) :
    ∃ H3 H4, evalOp e' (.store x' v' n') H = some (u', H3) ∧ evalOp e (.store x v n) H3 = some (u, H4) ∧ (∀ k, H2.get k = H4.get k) ∧ H2.nx = H4.nx ∧ H3.nx = H.nx := by
  obtain ⟨rfl, cs, l, a1, rfl, a3⟩ := store_inv h1 hx
  obtain ⟨rfl, cs', l', b1, rfl, b3⟩ := store_inv h2 hx'
  have b1' : H.get j = some (.cells cs' .own) := by rw [← b1, get_put_ne _ _ _ _ hij]
  refine ⟨_, _, b3 H b1', a3 _ (by rw [get_put_ne _ _ _ _ (Ne.symm hij)]; exact a1), fun k => ?_, rfl, rfl⟩
  by_cases hk : j = k
  · subst hk; rw [get_put_same, get_put_ne _ _ _ _ hij, get_put_same]
  · rw [get_put_ne _ _ _ _ hk]
    by_cases hk2 : i = k
    · subst hk2; rw [get_put_same, get_put_same]
    · rw [get_put_ne _ _ _ _ hk2, get_put_ne _ _ _ _ hk2, get_put_ne _ _ _ _ hk]

theorem operRun_inv {R : Rec} {o : AOper} {T T' : Fr} {H H' : AHeap} (h : operRun R o T H = some (T', H')) :
    (wants o.guard T = some true ∧ ∃ v, opE R o.op (ev T) H = some (v, H') ∧ T' = putD o.dst v T) ∨ (wants o.guard T = some false ∧ T' = putD o.dst (.tup []) T ∧ H' = H) := by
  unfold operRun at h
  split at h
  · rename_i hw
    split at h <;> cases h
    rename_i v hv
    rw [oper1_eq] at hv
    exact .inl ⟨hw, v, hv, rfl⟩
  · rename_i hw
    cases h
    exact .inr ⟨hw, rfl, rfl⟩
  · cases h

theorem at_putD_same (p : List Bool) (v : AV) (T : Fr) : Fr.at_ (putD (some p) v T) p = v := at_set_same T p v
theorem at_putD_ne {dst : Option (List Bool)} {p : List Bool} (h : dst ≠ some p) (v : AV) (T : Fr) : Fr.at_ (putD dst v T) p = Fr.at_ T p := by
  cases dst with
  | none => rfl
  | some q => exact at_set_ne T q p v fun e => h (by rw [e])

section
variable (P : Program) (N : Nat) (ops : Array Oper)
abbrev oL : List AOper := copers P N ops ops.toList
abbrev mS : List Nat := masks ops.toList
abbrev eS : List Nat := effs 0 (oL P N ops)
abbrev kS : List (DK × AOper) := kindsF (mS ops) (eS P N ops) (swapOf (mS ops) (eS P N ops)) 0 (oL P N ops)
/-- where stage k ends, and where it begins -/
def eAt (k : Nat) : Nat := ((eS P N ops)[k]?).getD ops.size
def sAt : Nat → Nat
  | 0 => 0
  | k + 1 => eAt P N ops k + 1
def anc (i j : Nat) : Prop := ((mS ops).getD i 0).testBit j = true
end

theorem copers_get (P : Program) (N : Nat) (ops : Array Oper) : ∀ (l : List Oper) (i : Nat), (copers P N ops l)[i]? = (l[i]?).map (coper P N ops) := by
  intro l
  induction l with
  | nil => intro i; simp [copers]
  | cons o l ih => intro i; cases i with
    | zero => simp [copers]
    | succ i => simp [copers, ih]
theorem copers_length (P : Program) (N : Nat) (ops : Array Oper) : ∀ (l : List Oper), (copers P N ops l).length = l.length := by
  intro l
  induction l with
  | nil => rfl
  | cons o l ih => simp [copers, ih]

/-- what is known of the region and of its run in the text's order -/
structure RG (P : Program) (R : Rec) (N : Nat) (ops : Array Oper) (rs rs1 : List Rcd) (p q : Nat) (Tf : Nat → Fr) (Hf : Nat → AHeap) (idf : Nat → Nat) : Prop where
  E : edgesOk 0 ops.toList = true
  ch : chained (mS ops) (eS P N ops) = true
  sw : swapOk (mS ops) (eS P N ops) (oL P N ops) = true
  tm : tmpsOk (mS ops) (writersF 0 (oL P N ops)) 0 (oL P N ops) = true
  fl : floatsOk (kS P N ops) = true
  step : ∀ i d o, (kS P N ops)[i]? = some (d, o) → StepIs R rs rs1 p q d o (idf i) (Tf i) (Hf i) (Tf (i + 1)) (Hf (i + 1))
  lt : ∀ i j a b o a' b' o', i < j → (kS P N ops)[i]? = some (.pre a b, o) → (kS P N ops)[j]? = some (.pre a' b', o') → idf i < idf j
  e2 : ∀ (j : Nat) (o : AOper), (kS P N ops)[j]? = some (.e2, o) →
    ∃ i o', i < j ∧ (kS P N ops)[i]? = some (.e, o') ∧ (∀ q d u, i < q → q < j → (kS P N ops)[q]? = some (d, u) → isEK d = false) ∧ differ (storeId o' (Tf i)) (storeId o (Tf j)) = true
  recs : ∀ c, (c ∈ rs ∨ c ∈ rs1) → ∀ k, k ≤ (eS P N ops).length → c.lo ≤ k → k ≤ c.hi → c.ok (Hf (eAt P N ops k)) = true
  qle : q ≤ (Hf 0).nx
  ple : p ≤ (Hf 0).nx

section
variable {P : Program} {R : Rec} {N : Nat} {ops : Array Oper} {rs rs1 : List Rcd} {p q : Nat} {Tf : Nat → Fr} {Hf : Nat → AHeap} {idf : Nat → Nat}

theorem oL_len : (oL P N ops).length = ops.size := by simp [copers_length]
theorem kS_len : (kS P N ops).length = ops.size := by simp [kindsF_length, copers_length]
theorem op_kind {i : Nat} {o : AOper} (h : (oL P N ops)[i]? = some o) : ∃ d, (kS P N ops)[i]? = some (d, o) := by
  have hi : i < (kS P N ops).length := by rw [kS_len, ← oL_len (P := P) (N := N)]; exact (List.getElem?_eq_some_iff.1 h).1
  obtain ⟨d, o'⟩ : ∃ d o', (kS P N ops)[i]? = some (d, o') := ⟨_, _, List.getElem?_eq_getElem hi⟩
  obtain ⟨o', e⟩ := o'
  have := (kindsF_get _ _ _ _ _ _ _ _ e).1
  rw [h] at this; cases this
  exact ⟨d, e⟩
theorem kind_op {i : Nat} {d : DK} {o : AOper} (h : (kS P N ops)[i]? = some (d, o)) : (oL P N ops)[i]? = some o := (kindsF_get _ _ _ _ _ _ _ _ h).1
theorem kind_lt {i : Nat} {d : DK} {o : AOper} (h : (kS P N ops)[i]? = some (d, o)) : i < ops.size := by
  have := (List.getElem?_eq_some_iff.1 h).1
  rw [kS_len] at this; exact this

theorem kind_eff {i : Nat} {d : DK} {o : AOper} (h : (kS P N ops)[i]? = some (d, o)) : isEK d = isE o.op := by
  obtain ⟨_, h⟩ := kindsF_get _ _ _ _ _ _ _ _ h
  subst h
  by_cases h1 : isE o.op = true
  · rw [if_pos h1, h1]; split <;> rfl
  · rw [if_neg h1]
    have : isE o.op = false := by simpa using h1
    rw [this]
    split
    · rfl
    · split
      · split <;> rfl
      · rfl
theorem kind_l {i a b : Nat} {o : AOper} (h : (kS P N ops)[i]? = some (.l a b, o)) : isE o.op = false ∧ isL o.op = true ∧ a = loOf ((mS ops).getD i 0) 0 0 (eS P N ops) ∧ b = hiOf (mS ops) i 0 (eS P N ops) := by
  have he := kind_eff h
  obtain ⟨_, h⟩ := kindsF_get _ _ _ _ _ _ _ _ h
  simp only [Nat.zero_add] at h
  have h1 : isE o.op = false := he.symm
  rw [if_neg (by rw [h1]; simp)] at h
  by_cases h2 : isL o.op = true
  · rw [if_pos h2] at h; cases h; exact ⟨h1, h2, rfl, rfl⟩
  · rw [if_neg h2] at h
    split at h
    · split at h <;> cases h
    · cases h
theorem kind_pre {i a b : Nat} {o : AOper} (h : (kS P N ops)[i]? = some (.pre a b, o)) : isE o.op = false ∧ a = loOf ((mS ops).getD i 0) 0 0 (eS P N ops) ∧ b = hiOf (mS ops) i 0 (eS P N ops) := by
  have he := kind_eff h
  obtain ⟨_, h⟩ := kindsF_get _ _ _ _ _ _ _ _ h
  simp only [Nat.zero_add] at h
  have h1 : isE o.op = false := he.symm
  rw [if_neg (by rw [h1]; simp)] at h
  split at h
  · cases h
  · split at h
    · split at h <;> cases h
      exact ⟨h1, rfl, rfl⟩
    · cases h
theorem kind_p {i : Nat} {o : AOper} (h : (kS P N ops)[i]? = some (.p, o)) : isE o.op = false ∧ isL o.op = false ∧ (isA o.op = true → loOf ((mS ops).getD i 0) 0 0 (eS P N ops) = hiOf (mS ops) i 0 (eS P N ops)) := by
  have he := kind_eff h
  obtain ⟨_, h⟩ := kindsF_get _ _ _ _ _ _ _ _ h
  simp only [Nat.zero_add] at h
  have h1 : isE o.op = false := he.symm
  rw [if_neg (by rw [h1]; simp)] at h
  by_cases h2 : isL o.op = true
  · rw [if_pos h2] at h; cases h
  · rw [if_neg h2] at h
    refine ⟨h1, by simpa using h2, fun h3 => ?_⟩
    rw [if_pos h3] at h
    split at h
    · assumption
    · cases h
theorem kind_e2 {i : Nat} {o : AOper} {d : DK} (h : (kS P N ops)[i]? = some (d, o)) (he : isE o.op = true) (hs : swapOf (mS ops) (eS P N ops) = some i) : d = .e2 := by
  obtain ⟨_, h⟩ := kindsF_get _ _ _ _ _ _ _ _ h
  simp only [Nat.zero_add] at h
  rw [if_pos he, hs] at h
  simpa using h

/-! effects in a row -/
theorem eS_lt {a b x y : Nat} (ha : (eS P N ops)[a]? = some x) (hb : (eS P N ops)[b]? = some y) (h : a < b) : x < y := by
  have hs := effs_sorted (oL P N ops) 0
  rw [List.pairwise_iff_getElem] at hs
  obtain ⟨h1, rfl⟩ := List.getElem?_eq_some_iff.1 ha
  obtain ⟨h2, rfl⟩ := List.getElem?_eq_some_iff.1 hb
  exact hs a b h1 h2 h
theorem eS_inj {a b x : Nat} (ha : (eS P N ops)[a]? = some x) (hb : (eS P N ops)[b]? = some x) : a = b := by
  rcases Nat.lt_trichotomy a b with h | h | h
  · have := eS_lt ha hb h; omega
  · exact h
  · have := eS_lt hb ha h; omega
theorem eS_mem {i : Nat} {o : AOper} (h : (oL P N ops)[i]? = some o) (he : isE o.op = true) : ∃ j : Nat, (eS P N ops)[j]? = some i := by
  have : i ∈ eS P N ops := (effs_mem _ _ _).2 ⟨i, o, by omega, h, he⟩
  exact List.getElem?_of_mem this
theorem eS_op {j i : Nat} (h : (eS P N ops)[j]? = some i) : ∃ o, (oL P N ops)[i]? = some o ∧ isE o.op = true := by
  obtain ⟨j, o, h1, h2, h3⟩ := (effs_mem _ _ _).1 (List.mem_of_getElem? h)
  rw [Nat.zero_add] at h1
  subst h1
  exact ⟨o, h2, h3⟩
theorem eAt_some {j i : Nat} (h : (eS P N ops)[j]? = some i) : eAt P N ops j = i := by simp [eAt, h]
theorem eAt_none {j : Nat} (h : (eS P N ops).length ≤ j) : eAt P N ops j = ops.size := by simp [eAt, List.getElem?_eq_none h]
theorem eAt_le (k : Nat) : eAt P N ops k ≤ ops.size := by
  unfold eAt
  cases h : (eS P N ops)[k]? with
  | none => simp
  | some i =>
    obtain ⟨o, h1, _⟩ := eS_op h
    have := (List.getElem?_eq_some_iff.1 h1).1
    rw [oL_len] at this
    simp; omega
/-- between two effects there is none -/
theorem stage_calm {k i : Nat} {d : DK} {o : AOper} (h1 : sAt P N ops k ≤ i) (h2 : i < eAt P N ops k) (h : (kS P N ops)[i]? = some (d, o)) : isEK d = false := by
  rw [kind_eff h]
  cases he : isE o.op with
  | false => rfl
  | true =>
    obtain ⟨j, hj⟩ := eS_mem (kind_op h) he
    rcases Nat.lt_or_ge j k with hlt | hge
    · cases k with
      | zero => omega
      | succ k =>
        simp only [sAt] at h1
        have hk : (eS P N ops)[k]? ≠ none := fun e => by
          rw [List.getElem?_eq_none_iff] at e
          rw [eAt_none e] at h1
          have := kind_lt h
          omega
        obtain ⟨y, hy⟩ := Option.ne_none_iff_exists'.1 hk
        rw [eAt_some hy] at h1
        rcases Nat.lt_or_ge j k with h3 | h3
        · have := eS_lt hj hy h3; omega
        · obtain rfl : j = k := by omega
          rw [hj] at hy; cases hy; omega
    · have hk : (eS P N ops)[k]? ≠ none := fun e => by
        rw [List.getElem?_eq_none_iff] at e
        have := (List.getElem?_eq_some_iff.1 hj).1
        omega
      obtain ⟨y, hy⟩ := Option.ne_none_iff_exists'.1 hk
      rw [eAt_some hy] at h2
      rcases Nat.lt_or_ge k j with h3 | h3
      · have := eS_lt hy hj h3; omega
      · obtain rfl : j = k := by omega
        rw [hj] at hy; cases hy; omega

namespace RG
variable (g : RG P R N ops rs rs1 p q Tf Hf idf)
include g

theorem uniq {i j : Nat} {o o' : AOper} {t : List Bool} (hi : (oL P N ops)[i]? = some o) (hj : (oL P N ops)[j]? = some o') (h1 : o.dst = some t) (h2 : o'.dst = some t) : i = j := by
  have := (tmpsOk_spec g.tm i o hi).2 t h1
  rw [Nat.zero_add] at this
  have := alone_spec this (0 + j, num t) (writersF_mem _ 0 j o' t hj h2) rfl
  simp at this; exact this.symm
theorem order {i w : Nat} {o o' : AOper} {t : List Bool} (hi : (oL P N ops)[i]? = some o) (hl : num t ∈ looks o) (hw : (oL P N ops)[w]? = some o') (h2 : o'.dst = some t) :
    w = i ∨ (w < i ∧ anc ops i w) ∨ (i < w ∧ anc ops w i) := by
  have := orderlyAll_spec (tmpsOk_spec g.tm i o hi).1 _ hl
  rw [Nat.zero_add] at this
  have := orderly_spec this (0 + w, num t) (writersF_mem _ 0 w o' t hw h2) rfl
  simpa [anc] using this

theorem put {i : Nat} {o : AOper} (hi : (oL P N ops)[i]? = some o) : ∃ v, Tf (i + 1) = putD o.dst v (Tf i) := by
  obtain ⟨d, hd⟩ := op_kind hi
  have hs := g.step i d o hd
  have key : operRun R o (Tf i) (Hf i) = some (Tf (i + 1), Hf (i + 1)) → ∃ v, Tf (i + 1) = putD o.dst v (Tf i) := fun h => by
    rcases operRun_inv h with ⟨_, v, _, e⟩ | ⟨_, e, _⟩
    · exact ⟨v, e⟩
    · exact ⟨_, e⟩
  cases d with
  | pre a b => exact ⟨_, hs.2.1⟩
  | l a b => exact key hs.1
  | _ => exact key hs

theorem keep {t : List Bool} {j : Nat} : ∀ {j' : Nat}, j ≤ j' → j' ≤ ops.size → (∀ i o, j ≤ i → i < j' → (oL P N ops)[i]? = some o → o.dst ≠ some t) → Fr.at_ (Tf j') t = Fr.at_ (Tf j) t := by
  intro j'
  induction j' with
  | zero => intro h _ _; obtain rfl : j = 0 := by omega
            rfl
  | succ j' ih =>
    intro h hn hw
    rcases Nat.lt_or_ge j' j with hlt | hge
    · obtain rfl : j = j' + 1 := by omega
      rfl
    · have hi : j' < (oL P N ops).length := by rw [oL_len]; omega
      obtain ⟨v, hv⟩ := g.put (List.getElem?_eq_getElem hi)
      rw [hv, at_putD_ne (hw j' _ hge (by omega) (List.getElem?_eq_getElem hi)), ih hge (by omega) fun i o h1 h2 => hw i o h1 (by omega)]

/-- who writes a temporary, writes what stands there at the end -/
theorem final {i : Nat} {o : AOper} {t : List Bool} (hi : (oL P N ops)[i]? = some o) (ht : o.dst = some t) {j : Nat} (h1 : i < j) (h2 : j ≤ ops.size) : Fr.at_ (Tf j) t = Fr.at_ (Tf ops.size) t :=
  (g.keep h2 (Nat.le_refl _) fun w o' hw _ ho' e => by have := g.uniq hi ho' ht e; omega).symm

theorem calm {i : Nat} {d : DK} {o : AOper} (h : (kS P N ops)[i]? = some (d, o)) (hd : isEK d = false) : Hf (i + 1) = Hf i ∨ ∃ cs, Hf (i + 1) = lay cs (Hf i) := by
  have hs := g.step i d o h
  have hE : isE o.op = false := (kind_eff h).symm.trans hd
  cases d with
  | pre a b => exact .inl hs.1
  | l a b =>
    obtain ⟨_, hL, _⟩ := kind_l h
    rcases operRun_inv hs.1 with ⟨_, v, hv, _⟩ | ⟨_, _, e⟩
    · rw [opE_plain hE] at hv
      exact .inl (evalOp_look hL hv).1
    · exact .inl e
  | p =>
    obtain ⟨_, hL, _⟩ := kind_p h
    rcases operRun_inv hs with ⟨_, v, hv, _⟩ | ⟨_, _, e⟩
    · rw [opE_plain hE] at hv
      cases hA : isA o.op with
      | true => exact .inr (evalOp_new ((floatsOk_spec g.fl i _ o h).1 rfl hA) hv)
      | false => exact .inl (evalOp_pure hE hL hA hv).1
    · exact .inl e
  | e => cases hd
  | e2 => cases hd

theorem stage {s e : Nat} (hn : e ≤ ops.size) (hc : ∀ i d o, s ≤ i → i < e → (kS P N ops)[i]? = some (d, o) → isEK d = false) (hF : Fresh (Hf s)) : ∀ j, s ≤ j → j ≤ e →
    Fresh (Hf j) ∧ (Hf s).nx ≤ (Hf j).nx ∧ Grow (Hf s) (Hf j) ∧ ∀ (B : Nat) (w0 : World) (pr : List Nat) (β : Beta) (w : World), HR P B w0 pr β (Hf s) w → HR P B w0 pr β (Hf j) w := by
  intro j
  induction j with
  | zero => intro h _; obtain rfl : s = 0 := by omega
            exact ⟨hF, Nat.le_refl _, Grow.refl _, fun _ _ _ _ _ h => h⟩
  | succ j ih =>
    intro h1 h2
    rcases Nat.lt_or_ge j s with hlt | hge
    · obtain rfl : s = j + 1 := by omega
      exact ⟨hF, Nat.le_refl _, Grow.refl _, fun _ _ _ _ _ h => h⟩
    · obtain ⟨a1, a2, a3, a4⟩ := ih hge (by omega)
      have hi : j < (kS P N ops).length := by rw [kS_len]; omega
      obtain ⟨d, o, hk⟩ : ∃ d o, (kS P N ops)[j]? = some (d, o) := ⟨_, _, List.getElem?_eq_getElem hi⟩
      rcases g.calm hk (hc j d o hge (by omega) hk) with e | ⟨cs, e⟩
      · rw [e]; exact ⟨a1, a2, a3, a4⟩
      · rw [e]
        exact ⟨a1.push _, by simp [lay]; omega, a3.trans (a1.grow _), fun B w0 pr β w h => (a4 B w0 pr β w h).ghost _⟩

end RG
end
end Go.AM
/- A region that draws: whatever order is drawn, what the text's order gives comes out. Second part: the drawn run. -/
namespace Go.AM
open Go Go.RowKit

theorem cnt_set : ∀ (l : List Bool) (i : Nat), l[i]? = some false → (l.set i true).count false + 1 = l.count false := by
  intro l
  induction l with
  | nil => intro i h; simp at h
  | cons b l ih =>
    intro i h
    cases i with
    | zero => simp at h; subst h; simp
    | succ i =>
      have := ih i (by simpa using h)
      cases b <;> simp [List.count_cons] <;> omega
def cnt (listed : Array Bool) : Nat := listed.toList.count false
theorem listed_get {listed : Array Bool} {i : Nat} (h : listed.getD i true = false) : i < listed.size ∧ listed[i]? = some false ∧ listed.getD i false = false := by
  rw [Array.getD_eq_getD_getElem?] at h ⊢
  cases e : listed[i]? with
  | none => rw [e] at h; cases h
  | some b =>
    rw [e] at h
    simp only [Option.getD_some] at h
    subst h
    exact ⟨(Array.getElem?_eq_some_iff.1 e).1, rfl, rfl⟩
theorem cnt_list {listed : Array Bool} {i : Nat} (h : listed.getD i true = false) : cnt (listed.setIfInBounds i true) + 1 = cnt listed := by
  have := cnt_set listed.toList i (by simpa using (listed_get h).2.1)
  unfold cnt
  simpa using this
theorem set_get {listed : Array Bool} {i j : Nat} (hi : i < listed.size) : (listed.setIfInBounds i true).getD j false = if j = i then true else listed.getD j false := by
  rw [Array.getD_eq_getD_getElem?, Array.getD_eq_getD_getElem?]
  by_cases e : j = i
  · subst e; simp [hi]
  · rw [if_neg e, Array.getElem?_setIfInBounds_ne (Ne.symm e)]

section
variable {P : Program} {R : Rec} {N : Nat} {ops : Array Oper} {rs rs1 : List Rcd} {p q : Nat} {Tf : Nat → Fr} {Hf : Nat → AHeap} {idf : Nat → Nat}
  {B : Nat} {w0 : World} {pr : List Nat} {ro : Option Nat} {m : Nat} {Q : Exit → Act → World → Prop}

/-! one operation, at whatever time -/
theorem do_op (hR : RSound P R) (hpr : pr.Nodup) {i : Nat} {oc : Oper} {o : AOper} (hoc : ops[i]? = some oc) (hc : coper P N ops oc = o) {Tc : Fr} {G H' : AHeap} {v : AV} (hw : wants o.guard Tc = some true) (hop : opE R o.op (ev Tc) G = some (v, H'))
    {β : Beta} {a : Act} {w : World} (h : HR P B w0 pr β G w) (hT : TR β N Tc a.tmps) {K : Act → World → Prop}
    (hK : ∀ β' w' a', Ex G β H' β' → HR P B w0 pr β' H' w' → TR β' N (putD o.dst v Tc) a'.tmps → a'.defers = a.defers → K a' w') : wpOpIn (WF ro) m P ops Q i K a w := by
  unfold wpOpIn
  simp only [hoc]
  rcases coper_spec (P := P) N ops oc with hbad | ⟨dst, gd, hd, hcc, hg⟩
  · rw [hc] at hbad; subst hbad; simp [opE, evalOp] at hop
  · rw [hc] at hcc; subst hcc
    have hw' := wants_rel hg (T := Tc) (tmps := a.tmps) (fun j b d _ _ => hT.2 d) hw
    rw [if_pos hw']
    refine op_wp hR h hpr oc a (ev Tc) (fun x _ => eval_rel hT x) hop ro m ?_
    intro u w' β' e1 e2 e3
    exact hK β' w' _ e1 e2 (putD_rel (hT.mono (e1.ext h)) hd e3) (put_defers ..)

theorem skip_op {i : Nat} {oc : Oper} {o : AOper} (hoc : ops[i]? = some oc) (hc : coper P N ops oc = o) {Tc : Fr} (hw : wants o.guard Tc = some false)
    {β : Beta} {a : Act} {w : World} (hT : TR β N Tc a.tmps) {K : Act → World → Prop}
    (hK : ∀ a', TR β N (putD o.dst (.tup []) Tc) a'.tmps → a'.defers = a.defers → K a' w) : wpOpIn (WF ro) m P ops Q i K a w := by
  unfold wpOpIn
  simp only [hoc]
  rcases coper_spec (P := P) N ops oc with hbad | ⟨dst, gd, hd, hcc, hg⟩
  · rw [hc] at hbad; subst hbad; simp [wants] at hw
  · rw [hc] at hcc; subst hcc
    have hw' := wants_rel hg (T := Tc) (tmps := a.tmps) (fun j b d _ _ => hT.2 d) hw
    rw [if_neg (by rw [hw']; simp)]
    exact ⟨fun f _ => WF.fn ro f, hK _ (putD_rel hT hd (.tup [] #[] .nil)) (put_defers ..)⟩

theorem new_op {i : Nat} {oc : Oper} {o : AOper} (hoc : ops[i]? = some oc) (hc : coper P N ops oc = o) {Tc : Fr} {G Hn : AHeap} {v : AV} {cs : List AV} (hw : wants o.guard Tc = some true) (hN : isN o.op = true)
    (hop : evalOp (ev Tc) o.op Hn = some (v, lay cs Hn)) {β : Beta} {a : Act} {w : World} (h : HR P B w0 pr β G w) (hT : TR β N Tc a.tmps) (hn : β Hn.nx = none) (hg' : G.get Hn.nx = some (.cells cs .own)) (hlt : Hn.nx < G.nx) {K : Act → World → Prop}
    (hK : ∀ x w' a', HR P B w0 pr (β.add Hn.nx x) G w' → TR (β.add Hn.nx x) N (putD o.dst v Tc) a'.tmps → a'.defers = a.defers → K a' w') : wpOpIn (WF ro) m P ops Q i K a w := by
  unfold wpOpIn
  simp only [hoc]
  rcases coper_spec (P := P) N ops oc with hbad | ⟨dst, gd, hd, hcc, hg⟩
  · rw [hc] at hbad; subst hbad; cases hN
  · rw [hc] at hcc; subst hcc
    have hw' := wants_rel hg (T := Tc) (tmps := a.tmps) (fun j b d _ _ => hT.2 d) hw
    rw [if_pos hw']
    obtain ⟨cs', h1, c, t, u, h2, h3, h4⟩ := new_sound (P := P) (w := w) (ev Tc) a.eval oc (fun x _ => eval_rel hT x) hN hop
    have hcs : cs' = cs := by
      have : (lay cs Hn).get Hn.nx = (lay cs' Hn).get Hn.nx := by rw [h1]
      simp only [lay, get_push_same, Option.some.injEq, AObj.cells.injEq] at this
      exact this.1.symm
    subst hcs
    have h5 := h.adopt (t := t) hn hg' hlt h3
    have e := β.add_ext Hn.nx (w.heap.size, 0, c.size) hn
    refine ⟨fun f _ => WF.fn ro f, ?_⟩
    have hnb : cop P oc ≠ .bad := by
      intro e'
      simp only [e'] at hN
      cases hN
    rw [show (WF ro).round = ro from rfl, semAt_of oc ro a.eval hnb, h2]
    exact hK _ _ _ h5 (putD_rel (hT.mono e) hd (h4 _ (Beta.add_same ..))) (put_defers ..)

/-! the state of a drawn run -/
structure Base (P : Program) (N : Nat) (ops : Array Oper) (Tf : Nat → Fr) (ds : List Deferred) (listed : Array Bool) (β : Beta) (a : Act) (Tc : Fr) : Prop where
  size : listed.size = ops.size
  closed : Closed ops.toList fun i => listed.getD i false
  tmps : TR β N Tc a.tmps
  tcA : ∀ (t : List Bool) (i : Nat) (o : AOper), listed.getD i false = true → (oL P N ops)[i]? = some o → o.dst = some t → Fr.at_ Tc t = Fr.at_ (Tf ops.size) t
  tcB : ∀ (t : List Bool), (∀ (i : Nat) (o : AOper), listed.getD i false = true → (oL P N ops)[i]? = some o → o.dst ≠ some t) → Fr.at_ Tc t = Fr.at_ (Tf 0) t
  defers : a.defers = ds

structure St (P : Program) (N : Nat) (ops : Array Oper) (Tf : Nat → Fr) (Hf : Nat → AHeap) (idf : Nat → Nat) (B : Nat) (w0 : World) (pr : List Nat) (Ho : AHeap) (β0 : Beta) (ds : List Deferred) (listed : Array Bool) (k : Nat) (β : Beta) (a : Act) (w : World) (Tc : Fr) : Prop
    extends Base P N ops Tf ds listed β a Tc where
  pre : ∀ (j x : Nat), (eS P N ops)[j]? = some x → (listed.getD x false = true ↔ j < k)
  kle : k ≤ (eS P N ops).length
  fresh : Fresh (Hf (sAt P N ops k))
  nx0 : (Hf 0).nx ≤ (Hf (sAt P N ops k)).nx
  nx1 : (Hf 0).nx ≤ (Hf (eAt P N ops k)).nx
  ex : Ex Ho β0 (Hf (eAt P N ops k)) β
  hr : HR P B w0 pr β (Hf (eAt P N ops k)) w
  u1 : ∀ (j a b : Nat) (o : AOper), (kS P N ops)[j]? = some (.pre a b, o) → listed.getD j false = false → β (idf j) = none
  u2 : ∀ (j : Nat) (o : AOper), (kS P N ops)[j]? = some (.p, o) → isA o.op = true → sAt P N ops k ≤ j → j < eAt P N ops k → wants o.guard (Tf j) = some true → listed.getD j false = false → β (Hf j).nx = none

/-- the effect i0 waits, on the heap Hc -/
def Swp (P : Program) (R : Rec) (N : Nat) (ops : Array Oper) (Tf : Nat → Fr) (Hf : Nat → AHeap) (i0 : Nat) (Hc : AHeap) : Prop :=
  ∃ o u H4, (oL P N ops)[i0]? = some o ∧ isE o.op = true ∧ o.guard = none ∧ opE R o.op (ev (Tf i0)) Hc = some (u, H4) ∧ Tf (i0 + 1) = putD o.dst u (Tf i0) ∧ (∀ k, (Hf ops.size).get k = H4.get k) ∧ (Hf ops.size).nx = H4.nx

/-- the last effect is through, the one before it may not be; who is left looks at no memory -/
structure St2 (P : Program) (R : Rec) (N : Nat) (ops : Array Oper) (Tf : Nat → Fr) (Hf : Nat → AHeap) (B : Nat) (w0 : World) (pr : List Nat) (Ho : AHeap) (β0 : Beta) (ds : List Deferred) (i0 : Nat) (Hc : AHeap) (listed : Array Bool) (β : Beta) (a : Act) (w : World) (Tc : Fr) : Prop
    extends Base P N ops Tf ds listed β a Tc where
  pre : ∀ (j x : Nat), (eS P N ops)[j]? = some x → x ≠ i0 → listed.getD x false = true
  ahead : ∀ (j : Nat) (o : AOper), (oL P N ops)[j]? = some o → isL o.op = true ∨ isA o.op = true → listed.getD j false = true
  ex : Ex Ho β0 Hc β
  hr : HR P B w0 pr β Hc w
  sw : (listed.getD i0 false = false ∧ Swp P R N ops Tf Hf i0 Hc) ∨ (listed.getD i0 false = true ∧ Hc = Hf ops.size)

/-- who may be taken -/
structure Rdy (ops : Array Oper) (listed : Array Bool) (i : Nat) (oc : Oper) : Prop where
  un : listed.getD i true = false
  op : ops[i]? = some oc
  edges : ∀ e, e ∈ oc.after → Region.binds .any e = true → listed.getD e.on false = true

namespace Base
variable {ds : List Deferred} {listed : Array Bool} {β : Beta} {a : Act} {Tc : Fr} (b : Base P N ops Tf ds listed β a Tc)
include b

theorem ancs {i : Nat} {oc : Oper} (hr : Rdy ops listed i oc) {j : Nat} (h : anc ops i j) : listed.getD j false = true :=
  b.closed.anc i j (fun o e h1 h2 h3 => by
    have : ops[i]? = some o := by simpa using h1
    rw [hr.op] at this; cases this
    exact hr.edges e (by simpa using h2) h3) h
theorem desc {i : Nat} {oc : Oper} (hr : Rdy ops listed i oc) {j : Nat} (h : anc ops j i) : listed.getD j false = false := by
  cases e : listed.getD j false with
  | false => rfl
  | true =>
    have := b.closed.of (i := j) (j := i) e h
    rw [(listed_get hr.un).2.2] at this; cases this

theorem alike (g : RG P R N ops rs rs1 p q Tf Hf idf) {i : Nat} {oc : Oper} {o : AOper} (hr : Rdy ops listed i oc) (hi : (oL P N ops)[i]? = some o) : AlikeF o Tc (Tf i) := by
  intro t ht
  have hin : i < ops.size := by rw [← oL_len (P := P) (N := N)]; exact (List.getElem?_eq_some_iff.1 hi).1
  have hun := (listed_get hr.un).2.2
  by_cases hw : ∃ (w : Nat) (o' : AOper), (oL P N ops)[w]? = some o' ∧ o'.dst = some t
  · obtain ⟨w, o', h1, h2⟩ := hw
    have un : ∀ j u, (oL P N ops)[j]? = some u → u.dst = some t → j = w := fun j u hj hu => g.uniq hj h1 hu h2
    have late : listed.getD w false = false → i ≤ w → Fr.at_ Tc t = Fr.at_ (Tf i) t := fun hl hle => by
      rw [b.tcB t fun j u hj hu he => by rw [un j u hu he, hl] at hj; cases hj]
      exact (g.keep (Nat.zero_le _) (Nat.le_of_lt hin) fun j u _ hj hu he => by have := un j u hu he; omega).symm
    rcases g.order hi ht h1 h2 with rfl | ⟨h3, h4⟩ | ⟨h3, h4⟩
    · exact late hun (Nat.le_refl _)
    · rw [b.tcA t w o' (b.ancs hr h4) h1 h2, g.final h1 h2 h3 (Nat.le_of_lt hin)]
    · exact late (b.desc hr h4) (Nat.le_of_lt h3)
  · rw [b.tcB t fun j u _ hu he => hw ⟨j, u, hu, he⟩]
    exact (g.keep (Nat.zero_le _) (Nat.le_of_lt hin) fun j u _ _ hu he => hw ⟨j, u, hu, he⟩).symm

/-- one more is listed -/
theorem list (g : RG P R N ops rs rs1 p q Tf Hf idf) {i : Nat} {oc : Oper} {o : AOper} (hr : Rdy ops listed i oc) (hi : (oL P N ops)[i]? = some o) {v : AV} (hv : Tf (i + 1) = putD o.dst v (Tf i))
    {β' : Beta} {a' : Act} (hT : TR β' N (putD o.dst v Tc) a'.tmps) (hd : a'.defers = a.defers) : Base P N ops Tf ds (listed.setIfInBounds i true) β' a' (putD o.dst v Tc) := by
  have hlt := (listed_get hr.un).1
  have hin : i < ops.size := by rw [← oL_len (P := P) (N := N)]; exact (List.getElem?_eq_some_iff.1 hi).1
  refine { size := by simpa using b.size, closed := ?_, tmps := hT, tcA := ?_, tcB := ?_, defers := hd.trans b.defers }
  · intro j u e hj hu he hb
    simp only [set_get hlt] at hj ⊢
    have old : listed.getD e.on false = true := by
      by_cases hji : j = i
      · subst hji
        have : ops[j]? = some u := by simpa using hu
        rw [hr.op] at this; cases this
        exact hr.edges e (by simpa using he) hb
      · rw [if_neg hji] at hj
        exact b.closed j u e hj hu he hb
    split
    · rfl
    · exact old
  · intro t j u hj hu ht
    rw [set_get hlt] at hj
    by_cases ho : o.dst = some t
    · have := g.final hi ho (Nat.lt_succ_self i) hin
      rw [← this, hv, ho, at_putD_same, at_putD_same]
    · rw [at_putD_ne ho]
      have hji : j ≠ i := fun e => by subst e; rw [hi] at hu; cases hu; exact ho ht
      rw [if_neg hji] at hj
      exact b.tcA t j u hj hu ht
  · intro t ht
    have ho : o.dst ≠ some t := ht i o (by rw [set_get hlt, if_pos rfl]) hi
    rw [at_putD_ne ho]
    exact b.tcB t fun j u hj hu => ht j u (by rw [set_get hlt]; split <;> first | rfl | exact hj) hu

/-- nothing is left: all are listed -/
theorem all (hE : edgesOk 0 ops.toList = true) (h : Region.ready .any ops listed = []) : ∀ i, i < ops.size → listed.getD i false = true := by
  intro i
  induction i using Nat.strongRecOn with
  | ind i ih =>
    intro hi
    cases e : listed.getD i false with
    | true => rfl
    | false =>
      have hm : i ∈ Region.ready .any ops listed := by
        rw [mem_ready]
        have hl : i < listed.size := by rw [b.size]; exact hi
        refine ⟨?_, ops[i], Array.getElem?_eq_getElem hi, fun ed he hb => ?_⟩
        · rw [Array.getD_eq_getD_getElem?, Array.getElem?_eq_getElem hl] at e ⊢; simpa using e
        · have := edgesOk_spec ops.toList 0 hE i ops[i] ed (by simp [hi]) (by simpa using he) hb
          exact ih ed.on (by omega) (by omega)
      rw [h] at hm; cases hm

theorem last (g : RG P R N ops rs rs1 p q Tf Hf idf) (h : ∀ i, i < ops.size → listed.getD i false = true) : TR β N (Tf ops.size) a.tmps := by
  refine ⟨b.tmps.1, fun t => ?_⟩
  have : Fr.at_ Tc (path t) = Fr.at_ (Tf ops.size) (path t) := by
    by_cases hw : ∃ (w : Nat) (o' : AOper), (oL P N ops)[w]? = some o' ∧ o'.dst = some (path t)
    · obtain ⟨w, o', h1, h2⟩ := hw
      have hwn : w < ops.size := by rw [← oL_len (P := P) (N := N)]; exact (List.getElem?_eq_some_iff.1 h1).1
      exact b.tcA _ w o' (h w hwn) h1 h2
    · rw [b.tcB _ fun j u _ hu he => hw ⟨j, u, hu, he⟩]
      exact (g.keep (Nat.zero_le _) (Nat.le_refl _) fun j u _ _ hu he => hw ⟨j, u, hu, he⟩).symm
  rw [← this]; exact b.tmps.2 t
end Base

end
end Go.AM
/- A region that draws: whatever order is drawn, what the text's order gives comes out. Third part: all orders. -/
namespace Go.AM
open Go Go.RowKit

theorem rcd_cells {G : AHeap} {i off n lo hi : Nat} {vs : List AV} (h : Rcd.ok G (.cells i off n vs lo hi) = true) : G.load i off n = some vs := by
  simp only [Rcd.ok] at h
  split at h
  · rename_i l hl
    rw [hl, avsEq_eq h]
  · cases h
theorem rcd_fresh {G : AHeap} {i lo hi : Nat} {cs : List AV} (h : Rcd.ok G (.fresh i cs lo hi) = true) : G.get i = some (.cells cs .own) := by
  simp only [Rcd.ok] at h
  split at h
  · rename_i l hl
    rw [hl, avsEq_eq h]
  · cases h

section
variable {P : Program} {R : Rec} {N : Nat} {ops : Array Oper} {rs rs1 : List Rcd} {p q : Nat} {Tf : Nat → Fr} {Hf : Nat → AHeap} {idf : Nat → Nat}
  {B : Nat} {w0 : World} {pr : List Nat} {ro : Option Nat} {m : Nat} {Q : Exit → Act → World → Prop} {Ho : AHeap} {β0 : Beta} {ds : List Deferred}

namespace St
variable {listed : Array Bool} {k : Nat} {β : Beta} {a : Act} {w : World} {Tc : Fr} (s : St P N ops Tf Hf idf B w0 pr Ho β0 ds listed k β a w Tc)
include s

theorem range {i : Nat} {oc : Oper} (hr : Rdy ops listed i oc) : loOf ((mS ops).getD i 0) 0 0 (eS P N ops) ≤ k ∧ k ≤ hiOf (mS ops) i 0 (eS P N ops) := by
  constructor
  · rcases loOf_spec ((mS ops).getD i 0) (eS P N ops) 0 0 with h | ⟨x, e, h1, h2, h3⟩
    · omega
    · have := (s.pre x e h1).1 (s.toBase.ancs hr h3)
      omega
  · rcases hiOf_spec (mS ops) i (eS P N ops) 0 with h | ⟨x, e, h1, h2, h3⟩
    · have := s.kle; omega
    · have h4 := s.toBase.desc hr h3
      rcases Nat.lt_or_ge x k with h5 | h5
      · have := (s.pre x e h1).2 h5
        rw [h4] at this; cases this
      · omega
end St

/-- where lo and hi agree, the text has the operation in that stage -/
theorem in_stage (hE : edgesOk 0 ops.toList = true) {i k : Nat} (hi : i < ops.size) (h1 : loOf ((mS ops).getD i 0) 0 0 (eS P N ops) = k) (h2 : hiOf (mS ops) i 0 (eS P N ops) = k) : sAt P N ops k ≤ i ∧ i < eAt P N ops k := by
  constructor
  · rcases loOf_spec ((mS ops).getD i 0) (eS P N ops) 0 0 with h | ⟨x, e, g1, g2, g3⟩
    · obtain rfl : k = 0 := by omega
      exact Nat.zero_le _
    · obtain rfl : k = x + 1 := by omega
      have := masks_lt hE i e g3
      simp only [sAt, eAt_some g1]; omega
  · rcases hiOf_spec (mS ops) i (eS P N ops) 0 with h | ⟨x, e, g1, g2, g3⟩
    · rw [eAt_none (by omega)]; exact hi
    · obtain rfl : k = x := by omega
      have := masks_lt hE e i g3
      rw [eAt_some g1]; exact this

theorem unl {listed : Array Bool} {i j : Nat} (hi : i < listed.size) (h : (listed.setIfInBounds i true).getD j false = false) : j ≠ i ∧ listed.getD j false = false := by
  rw [set_get hi] at h
  split at h
  · cases h
  · exact ⟨by assumption, h⟩

namespace St
variable {listed : Array Bool} {k : Nat} {β : Beta} {a : Act} {w : World} {Tc : Fr} (s : St P N ops Tf Hf idf B w0 pr Ho β0 ds listed k β a w Tc)
include s

theorem stay (g : RG P R N ops rs rs1 p q Tf Hf idf) {i : Nat} {oc : Oper} {o : AOper} (hr : Rdy ops listed i oc) (hi : (oL P N ops)[i]? = some o) (hne : isE o.op = false) {v : AV} (hv : Tf (i + 1) = putD o.dst v (Tf i))
    {β' : Beta} {a' : Act} {w' : World} (hT : TR β' N (putD o.dst v Tc) a'.tmps) (hd : a'.defers = a.defers) (hx : Ex Ho β0 (Hf (eAt P N ops k)) β') (h : HR P B w0 pr β' (Hf (eAt P N ops k)) w')
    (u1 : ∀ (j x y : Nat) (o : AOper), j ≠ i → (kS P N ops)[j]? = some (.pre x y, o) → listed.getD j false = false → β' (idf j) = none)
    (u2 : ∀ (j : Nat) (o : AOper), j ≠ i → (kS P N ops)[j]? = some (.p, o) → isA o.op = true → sAt P N ops k ≤ j → j < eAt P N ops k → wants o.guard (Tf j) = some true → listed.getD j false = false → β' (Hf j).nx = none) :
    St P N ops Tf Hf idf B w0 pr Ho β0 ds (listed.setIfInBounds i true) k β' a' w' (putD o.dst v Tc) := by
  have hlt := (listed_get hr.un).1
  refine { toBase := s.toBase.list g hr hi hv hT hd, pre := fun j x hj => ?_, kle := s.kle, fresh := s.fresh, nx0 := s.nx0, nx1 := s.nx1, ex := hx, hr := h, u1 := fun j x y u hj hl => ?_, u2 := fun j u hj hA h1 h2 hw hl => ?_ }
  · have hxi : x ≠ i := fun e => by
      subst e
      obtain ⟨u, h1, h2⟩ := eS_op hj
      rw [hi] at h1; cases h1
      rw [hne] at h2; cases h2
    rw [set_get hlt, if_neg hxi]
    exact s.pre j x hj
  · obtain ⟨h1, h2⟩ := unl hlt hl
    exact u1 j x y u h1 hj h2
  · obtain ⟨h3, h4⟩ := unl hlt hl
    exact u2 j u h3 hj hA h1 h2 hw h4

theorem adv (g : RG P R N ops rs rs1 p q Tf Hf idf) {i : Nat} {oc : Oper} {o : AOper} (hr : Rdy ops listed i oc) (hi : (oL P N ops)[i]? = some o) (hk : (eS P N ops)[k]? = some i) {v : AV} (hv : Tf (i + 1) = putD o.dst v (Tf i))
    {β' : Beta} {a' : Act} {w' : World} (hT : TR β' N (putD o.dst v Tc) a'.tmps) (hd : a'.defers = a.defers) (hx : Ex (Hf (eAt P N ops k)) β (Hf (i + 1)) β') (h : HR P B w0 pr β' (Hf (i + 1)) w') :
    St P N ops Tf Hf idf B w0 pr Ho β0 ds (listed.setIfInBounds i true) (k + 1) β' a' w' (putD o.dst v Tc) := by
  have hlt := (listed_get hr.un).1
  have hs : sAt P N ops (k + 1) = i + 1 := by simp only [sAt, eAt_some hk]
  have hF : Fresh (Hf (i + 1)) := h.free
  have hle : i + 1 ≤ eAt P N ops (k + 1) := by
    cases e : (eS P N ops)[k + 1]? with
    | none =>
      rw [eAt_none (by simpa using e)]
      have := (List.getElem?_eq_some_iff.1 hi).1
      rw [oL_len] at this; omega
    | some y => rw [eAt_some e]; have := eS_lt hk e (Nat.lt_succ_self k); omega
  obtain ⟨_, n1, _, n2⟩ := g.stage (s := i + 1) (e := eAt P N ops (k + 1)) (eAt_le _) (fun x d u h1 h2 h3 => stage_calm (k := k + 1) (by rw [hs]; exact h1) h2 h3) hF _ hle (Nat.le_refl _)
  have hx2 : Ex (Hf (eAt P N ops k)) β (Hf (eAt P N ops (k + 1))) β' := ⟨Nat.le_trans hx.1 n1, hx.2⟩
  have hq : (Hf 0).nx ≤ (Hf (eAt P N ops k)).nx := s.nx1
  refine { toBase := s.toBase.list g hr hi hv hT hd, pre := fun j x hj => ?_, kle := ?_, fresh := by rw [hs]; exact hF, nx0 := ?_, nx1 := by have := hx.1; omega, ex := s.ex.trans hx2, hr := n2 _ _ _ _ _ h, u1 := fun j x y u hj hl => ?_, u2 := fun j u hj hA h1 h2 hw hl => ?_ }
  · rw [set_get hlt]
    by_cases e : x = i
    · subst e
      rw [if_pos rfl]
      have := eS_inj hj hk
      simp; omega
    · rw [if_neg e, s.pre j x hj]
      have : j ≠ k := fun e' => by subst e'; rw [hj] at hk; cases hk; exact e rfl
      omega
  · have := (List.getElem?_eq_some_iff.1 hk).1; omega
  · rw [hs]; have := hx.1; omega
  · obtain ⟨h1, h2⟩ := unl hlt hl
    obtain ⟨_, _, _, _, h3, _⟩ := g.step j _ _ hj
    have := g.qle
    rw [hx.2 _ (by omega)]
    exact s.u1 j x y u hj h2
  · cases e : β' (Hf j).nx with
    | none => rfl
    | some z =>
      exfalso
      have h3 := h.dom _ _ e
      rw [hs] at h1
      have := (g.stage (s := i + 1) (e := eAt P N ops (k + 1)) (eAt_le _) (fun x d u h1 h2 h3 => stage_calm (k := k + 1) (by rw [hs]; exact h1) h2 h3) hF j h1 (Nat.le_of_lt h2)).2.1
      omega
end St

/-- a plain operation leaves the heap -/
theorem RG.still (g : RG P R N ops rs rs1 p q Tf Hf idf) {s e : Nat} (hn : e ≤ ops.size) (hc : ∀ (i : Nat) (d : DK) (o : AOper), s ≤ i → i < e → (kS P N ops)[i]? = some (d, o) → isEK d = false ∧ isA o.op = false) : ∀ j, s ≤ j → j ≤ e → Hf j = Hf s := by
  intro j
  induction j with
  | zero => intro h _; obtain rfl : s = 0 := by omega
            rfl
  | succ j ih =>
    intro h1 h2
    rcases Nat.lt_or_ge j s with hlt | hge
    · obtain rfl : s = j + 1 := by omega
      rfl
    · have hi : j < (kS P N ops).length := by rw [kS_len]; omega
      obtain ⟨d, o, hk⟩ : ∃ d o, (kS P N ops)[j]? = some (d, o) := ⟨_, _, List.getElem?_eq_getElem hi⟩
      obtain ⟨h3, h4⟩ := hc j d o hge (by omega) hk
      rw [← ih hge (by omega)]
      have hE : isE o.op = false := (kind_eff hk).symm.trans h3
      have hs := g.step j d o hk
      have key : isL o.op = true ∨ isL o.op = false → operRun R o (Tf j) (Hf j) = some (Tf (j + 1), Hf (j + 1)) → Hf (j + 1) = Hf j := fun hL hs => by
        rcases operRun_inv hs with ⟨_, v, hv, _⟩ | ⟨_, _, e⟩
        · rw [opE_plain hE] at hv
          rcases hL with hL | hL
          · exact (evalOp_look hL hv).1
          · exact (evalOp_pure hE hL h4 hv).1
        · exact e
      have hL : isL o.op = true ∨ isL o.op = false := by cases isL o.op <;> simp
      cases d with
      | pre a b => exact hs.1
      | l a b => exact key hL hs.1
      | p => exact key hL hs
      | e => cases h3
      | e2 => cases h3

theorem ready_rdy {listed : Array Bool} {i : Nat} (hi : i ∈ Region.ready .any ops listed) : ∃ oc, Rdy ops listed i oc ∧ (oL P N ops)[i]? = some (coper P N ops oc) := by
  obtain ⟨h1, oc, h2, h3⟩ := mem_ready.1 hi
  refine ⟨oc, ⟨h1, h2, h3⟩, ?_⟩
  have : ops.toList[i]? = some oc := by simpa using h2
  rw [copers_get, this]; rfl

section
variable (hR : RSound P R) (hpr : pr.Nodup) (g : RG P R N ops rs rs1 p q Tf Hf idf)
  (hHo : Ho.nx ≤ p) (hQ : ∀ β w a, Ex Ho β0 (Hf ops.size) β → HR P B w0 pr β (Hf ops.size) w → TR β N (Tf ops.size) a.tmps → a.defers = ds → Q .normal a w)
include hR hpr g hHo hQ

/-- (b) the last effect is through -/
theorem any2 : ∀ (fuel : Nat) (i0 : Nat) (Hc : AHeap) (listed : Array Bool) (β : Beta) (a : Act) (w : World) (Tc : Fr), St2 P R N ops Tf Hf B w0 pr Ho β0 ds i0 Hc listed β a w Tc → cnt listed ≤ fuel →
    wpAnyIn (WF ro) m P .any ops Q fuel listed a w := by
  have _ := hHo
  have done : ∀ (i0 : Nat) (Hc : AHeap) (listed : Array Bool) (β : Beta) (a : Act) (w : World) (Tc : Fr), St2 P R N ops Tf Hf B w0 pr Ho β0 ds i0 Hc listed β a w Tc → Region.ready .any ops listed = [] → Q .normal a w := by
    intro i0 Hc listed β a w Tc s h0
    have hall := s.toBase.all g.E h0
    rcases s.sw with ⟨h1, o, u, H4, h2, _⟩ | ⟨h1, rfl⟩
    · have : i0 < ops.size := by rw [← oL_len (P := P) (N := N)]; exact (List.getElem?_eq_some_iff.1 h2).1
      rw [hall i0 this] at h1; cases h1
    · exact hQ β w a s.ex s.hr (s.toBase.last g hall) s.defers
  intro fuel
  induction fuel with
  | zero =>
    intro i0 Hc listed β a w Tc s hc
    have h0 : Region.ready .any ops listed = [] := by
      rcases hr : Region.ready .any ops listed with _ | ⟨i, l⟩
      · rfl
      · have := (mem_ready.1 (show i ∈ Region.ready .any ops listed by rw [hr]; exact List.mem_cons_self ..)).1
        have := cnt_list this; omega
    exact ⟨h0, done _ _ _ _ _ _ _ s h0⟩
  | succ fuel ih =>
    intro i0 Hc listed β a w Tc s hc
    refine ⟨done _ _ _ _ _ _ _ s, fun i hi => ?_⟩
    obtain ⟨oc, hr, ho⟩ := ready_rdy (P := P) (N := N) hi
    generalize ho' : coper P N ops oc = o at ho
    have hcnt := cnt_list hr.un
    have hlt := (listed_get hr.un).1
    have hun := (listed_get hr.un).2.2
    have al := s.toBase.alike g hr ho
    cases hE : isE o.op with
    | true =>
      obtain ⟨j, hj⟩ := eS_mem ho hE
      have hi0 : i = i0 := by
        rcases Decidable.em (i = i0) with h | h
        · exact h
        · rw [s.pre j i hj h] at hun; cases hun
      subst hi0
      rcases s.sw with ⟨_, o', u, H4, h2, _, h3, h4, h5, h6, h7⟩ | ⟨h1, _⟩
      · rw [ho] at h2; cases h2
        refine do_op hR hpr hr.op ho' (by rw [h3]; rfl) (by rw [al.opE]; exact h4) s.hr s.tmps ?_
        intro β' w' a' e1 e2 e3 e4
        refine ih i (Hf ops.size) _ β' a' w' (putD o.dst u Tc) ?_ (by omega)
        have e1' : Ex Hc β (Hf ops.size) β' := ⟨by rw [h7]; exact e1.1, e1.2⟩
        exact { toBase := s.toBase.list g hr ho h5 e3 e4, pre := fun j x hj hx => by rw [set_get hlt]; split <;> first | rfl | exact s.pre j x hj hx
                ahead := fun j o hj hLA => by rw [set_get hlt]; split <;> first | rfl | exact s.ahead j o hj hLA
                ex := s.ex.trans e1', hr := e2.same h6 h7, sw := .inr ⟨by rw [set_get hlt, if_pos rfl], rfl⟩ }
      · rw [hun] at h1; cases h1
    | false =>
      have hL : isL o.op = false := by
        cases e : isL o.op with
        | false => rfl
        | true => rw [s.ahead i o ho (.inl e)] at hun; cases hun
      have hA : isA o.op = false := by
        cases e : isA o.op with
        | false => rfl
        | true => rw [s.ahead i o ho (.inr e)] at hun; cases hun
      obtain ⟨d, hd⟩ := op_kind ho
      have hs := g.step i d o hd
      have hrun : operRun R o (Tf i) (Hf i) = some (Tf (i + 1), Hf (i + 1)) := by
        cases d with
        | pre a b => obtain ⟨_, _, _, _, _, cs, h, _⟩ := hs; rw [h] at hA; cases hA
        | l a b => exact hs.1
        | _ => exact hs
      have next : ∀ v (β' : Beta) (a' : Act) (w' : World), Ex Hc β Hc β' → HR P B w0 pr β' Hc w' → Tf (i + 1) = putD o.dst v (Tf i) → TR β' N (putD o.dst v Tc) a'.tmps → a'.defers = a.defers →
          wpAnyIn (WF ro) m P .any ops Q fuel (listed.setIfInBounds i true) a' w' := by
        intro v β' a' w' hx hh h1 h2 h3
        refine ih i0 Hc _ β' a' w' (putD o.dst v Tc) ?_ (by omega)
        exact { toBase := s.toBase.list g hr ho h1 h2 h3, pre := fun j x hj hx => by rw [set_get hlt]; split <;> first | rfl | exact s.pre j x hj hx
                ahead := fun j o hj hLA => by rw [set_get hlt]; split <;> first | rfl | exact s.ahead j o hj hLA
                ex := s.ex.trans hx, hr := hh
                sw := by
                  rcases s.sw with ⟨h4, h5⟩ | ⟨h4, h5⟩
                  · have hne : i0 ≠ i := fun e => by
                      subst e
                      obtain ⟨o', u, H4, k1, k2, _⟩ := h5
                      rw [ho] at k1; cases k1; rw [hE] at k2; cases k2
                    exact .inl ⟨by rw [set_get hlt, if_neg hne]; exact h4, h5⟩
                  · exact .inr ⟨by rw [set_get hlt]; split <;> first | rfl | exact h4, h5⟩ }
      rcases operRun_inv hrun with ⟨hw, v, hv, e⟩ | ⟨hw, e, _⟩
      · rw [opE_plain hE] at hv
        exact do_op hR hpr (G := Hc) (H' := Hc) (v := v) hr.op ho' (by rw [al.wants]; exact hw) (by rw [opE_plain hE, al.evalOp]; exact (evalOp_pure hE hL hA hv).2 Hc) s.hr s.tmps fun β' w' a' e1 e2 e3 e4 => next v β' a' w' e1 e2 e e3 e4
      · exact skip_op hr.op ho' (by rw [al.wants]; exact hw) s.tmps fun a' h2 h3 => next _ β a' w (Ex.refl _ _) s.hr e h2 h3

/-- (a) the effects listed are the first k -/
theorem any1 : ∀ (fuel : Nat) (k : Nat) (listed : Array Bool) (β : Beta) (a : Act) (w : World) (Tc : Fr), St P N ops Tf Hf idf B w0 pr Ho β0 ds listed k β a w Tc → cnt listed ≤ fuel →
    wpAnyIn (WF ro) m P .any ops Q fuel listed a w := by
  have done : ∀ (k : Nat) (listed : Array Bool) (β : Beta) (a : Act) (w : World) (Tc : Fr), St P N ops Tf Hf idf B w0 pr Ho β0 ds listed k β a w Tc → Region.ready .any ops listed = [] → Q .normal a w := by
    intro k listed β a w Tc s h0
    have hall := s.toBase.all g.E h0
    have hk : eAt P N ops k = ops.size := by
      cases e : (eS P N ops)[k]? with
      | none => exact eAt_none (by simpa using e)
      | some y =>
        obtain ⟨o, h1, _⟩ := eS_op e
        have : y < ops.size := by rw [← oL_len (P := P) (N := N)]; exact (List.getElem?_eq_some_iff.1 h1).1
        have := (s.pre k y e).1 (hall y this)
        omega
    have hx := s.ex
    have hh := s.hr
    rw [hk] at hx hh
    exact hQ β w a hx hh (s.toBase.last g hall) s.defers
  intro fuel
  induction fuel with
  | zero =>
    intro k listed β a w Tc s hc
    have h0 : Region.ready .any ops listed = [] := by
      rcases hr : Region.ready .any ops listed with _ | ⟨i, l⟩
      · rfl
      · have := (mem_ready.1 (show i ∈ Region.ready .any ops listed by rw [hr]; exact List.mem_cons_self ..)).1
        have := cnt_list this; omega
    exact ⟨h0, done _ _ _ _ _ _ s h0⟩
  | succ fuel ih =>
    intro k listed β a w Tc s hc
    refine ⟨done _ _ _ _ _ _ s, fun i hi => ?_⟩
    obtain ⟨oc, hr, ho⟩ := ready_rdy (P := P) (N := N) hi
    generalize ho' : coper P N ops oc = o at ho
    have hcnt := cnt_list hr.un
    have hlt := (listed_get hr.un).1
    have hun := (listed_get hr.un).2.2
    have al := s.toBase.alike g hr ho
    have hin : i < ops.size := by rw [← oL_len (P := P) (N := N)]; exact (List.getElem?_eq_some_iff.1 ho).1
    obtain ⟨d, hd⟩ := op_kind ho
    have hs := g.step i d o hd
    have hE := kind_eff hd
    obtain ⟨lo, hi'⟩ := s.range hr
    -- the stage's beginning and end
    have stg : ∀ j, sAt P N ops k ≤ j → j ≤ eAt P N ops k → Fresh (Hf j) ∧ (Hf (sAt P N ops k)).nx ≤ (Hf j).nx := fun j h1 h2 =>
      let r := g.stage (s := sAt P N ops k) (e := eAt P N ops k) (eAt_le _) (fun x d u h1 h2 h3 => stage_calm h1 h2 h3) s.fresh j h1 h2
      ⟨r.1, r.2.1⟩
    have grow : ∀ j j', sAt P N ops k ≤ j → j ≤ j' → j' ≤ eAt P N ops k → Grow (Hf j) (Hf j') ∧ (Hf j).nx ≤ (Hf j').nx := fun j j' h1 h2 h3 =>
      let r := g.stage (s := j) (e := eAt P N ops k) (eAt_le _) (fun x d u h4 h5 h6 => stage_calm (Nat.le_trans h1 h4) h5 h6) (stg j h1 (by omega)).1 j' h2 h3
      ⟨r.2.2.1, r.2.1⟩
    -- a plain step, on the stage's end
    have plain : isE o.op = false → ∀ v, Tf (i + 1) = putD o.dst v (Tf i) → wants o.guard (Tf i) = some true → evalOp (ev (Tf i)) o.op (Hf (eAt P N ops k)) = some (v, Hf (eAt P N ops k)) →
        (isA o.op = false) → wpOpIn (WF ro) m P ops Q i (wpAnyIn (WF ro) m P .any ops Q fuel (listed.setIfInBounds i true)) a w := by
      intro hne v hv hw he hA
      refine do_op hR hpr (G := Hf (eAt P N ops k)) (H' := Hf (eAt P N ops k)) (v := v) hr.op ho' (by rw [al.wants]; exact hw) (by rw [opE_plain hne, al.evalOp]; exact he) s.hr s.tmps ?_
      intro β' w' a' e1 e2 e3 e4
      refine ih k _ β' a' w' (putD o.dst v Tc) ?_ (by omega)
      have same : ∀ z, β z = none → β' z = none := fun z hz => by
        cases e : β' z with
        | none => rfl
        | some x => rw [← e, e1.2 z (e2.dom _ _ e)]; exact hz
      exact s.stay g hr ho hne hv e3 e4 (s.ex.trans e1) e2 (fun j x y u _ hj hl => same _ (s.u1 j x y u hj hl)) (fun j u _ hj hA h1 h2 hw hl => same _ (s.u2 j u hj hA h1 h2 hw hl))
    have skip : isE o.op = false → wants o.guard (Tf i) = some false → Tf (i + 1) = putD o.dst (.tup []) (Tf i) → wpOpIn (WF ro) m P ops Q i (wpAnyIn (WF ro) m P .any ops Q fuel (listed.setIfInBounds i true)) a w := by
      intro hne hw hv
      refine skip_op hr.op ho' (by rw [al.wants]; exact hw) s.tmps fun a' h2 h3 => ?_
      refine ih k _ β a' w (putD o.dst (.tup []) Tc) ?_ (by omega)
      exact s.stay g hr ho hne hv h2 h3 s.ex s.hr (fun j x y u _ hj hl => s.u1 j x y u hj hl) (fun j u _ hj hA h1 h2 hw hl => s.u2 j u hj hA h1 h2 hw hl)
    -- an effect
    have eff : isEK d = true → operRun R o (Tf i) (Hf i) = some (Tf (i + 1), Hf (i + 1)) → wpOpIn (WF ro) m P ops Q i (wpAnyIn (WF ro) m P .any ops Q fuel (listed.setIfInBounds i true)) a w := by
      intro hdE hs
      have hE' : isE o.op = true := hE.symm.trans hdE
      obtain ⟨j, hj⟩ := eS_mem ho hE'
      have hjlen := (List.getElem?_eq_some_iff.1 hj).1
      have hjk : k ≤ j := by
        rcases Nat.lt_or_ge j k with h | h
        · have := (s.pre j i hj).2 h
          rw [hun] at this; cases this
        · exact h
      have hhr := s.hr
      by_cases hjk' : j = k
      · subst hjk'
        rw [eAt_some hj] at hhr
        rcases operRun_inv hs with ⟨hw, v, hv, e⟩ | ⟨hw, e, hh⟩
        · refine do_op hR hpr (G := Hf i) (H' := Hf (i + 1)) (v := v) hr.op ho' (by rw [al.wants]; exact hw) (by rw [al.opE]; exact hv) hhr s.tmps ?_
          intro β' w' a' e1 e2 e3 e4
          exact ih (j + 1) _ β' a' w' (putD o.dst v Tc) (s.adv g hr ho hj e e3 e4 (by rw [eAt_some hj]; exact e1) e2) (by omega)
        · refine skip_op hr.op ho' (by rw [al.wants]; exact hw) s.tmps fun a' h2 h3 => ?_
          exact ih (j + 1) _ β a' w (putD o.dst (.tup []) Tc) (s.adv g hr ho hj e h2 h3 (by rw [eAt_some hj, hh]; exact Ex.refl _ _) (by rw [hh]; exact hhr)) (by omega)
      · -- the last effect ahead of the one before it
        obtain ⟨j, rfl⟩ : ∃ j', j = j' + 1 := ⟨j - 1, by omega⟩
        obtain ⟨x, hx⟩ : ∃ x, (eS P N ops)[j]? = some x := ⟨_, List.getElem?_eq_getElem (by omega)⟩
        have hux : listed.getD x false = false := by
          cases e : listed.getD x false with
          | false => rfl
          | true => have := (s.pre j x hx).1 e; omega
        have hnanc : ¬ anc ops i x := fun h => by rw [s.toBase.ancs hr h] at hux; cases hux
        have hlen : (eS P N ops).length = j + 2 := by
          cases e : (eS P N ops)[j + 2]? with
          | none => have := List.getElem?_eq_none_iff.1 e; omega
          | some c => exact absurd (chained_spec _ _ g.ch j x i c hx hj e) hnanc
        have hsw : swapOf (mS ops) (eS P N ops) = some i ∧ lastTwo (eS P N ops) = some (x, i) := by
          rcases swapOf_spec (mS ops) (eS P N ops) with ⟨h, _⟩ | ⟨j', a', b', h1, h2, h3, h4, h5⟩
          · omega
          · obtain rfl : j' = j := by omega
            rw [hx] at h2; cases h2
            rw [hj] at h3; cases h3
            rw [if_neg (show ¬ (((mS ops).getD i 0).testBit x = true) from hnanc)] at h5
            exact ⟨h5, h4⟩
        have hah : aheadF x i ((mS ops).getD x 0) ((mS ops).getD i 0) 0 (oL P N ops) = true := by
          have := g.sw
          unfold swapOk at this
          rw [hsw.1, hsw.2] at this
          exact this
        have ahead : ∀ (y : Nat) (u : AOper), (oL P N ops)[y]? = some u → (isL u.op = true ∨ isA u.op = true ∨ (isE u.op = true ∧ y ≠ x ∧ y ≠ i)) → anc ops x y ∧ anc ops i y := fun y u hy hu => by
          have := aheadF_spec _ _ _ _ _ 0 hah y u hy (by simpa using hu)
          simpa [anc] using this
        have hkj : k = j := by
          rcases Nat.lt_or_ge k j with h | h
          · obtain ⟨y, hy⟩ : ∃ y, (eS P N ops)[k]? = some y := ⟨_, List.getElem?_eq_getElem (by omega)⟩
            obtain ⟨u, h1, h2⟩ := eS_op hy
            have hyx := eS_lt hy hx h
            have hyi := eS_lt hy hj (by omega)
            have := (s.pre k y hy).1 (s.toBase.ancs hr (ahead y u h1 (.inr (.inr ⟨h2, by omega, by omega⟩))).2)
            omega
          · omega
        subst hkj
        rw [eAt_some hx] at hhr
        have hex := s.ex
        rw [eAt_some hx] at hex
        have hd2 := kind_e2 hd hE' hsw.1
        subst hd2
        obtain ⟨i', o', h1, h2, h3, h4⟩ := g.e2 i o hd
        have hi' : i' = x := by
          have he' : isE o'.op = true := by rw [← kind_eff h2]; rfl
          obtain ⟨q', hq'⟩ := eS_mem (kind_op h2) he'
          rcases Nat.lt_or_ge q' k with h | h
          · exfalso
            have h5 := eS_lt hq' hx h
            have h6 := eS_lt hx hj (Nat.lt_succ_self k)
            obtain ⟨u, k1, k2⟩ := eS_op hx
            obtain ⟨dx, k3⟩ := op_kind k1
            have := h3 x dx u h5 h6 k3
            rw [kind_eff k3, k2] at this; cases this
          · rcases Nat.lt_or_ge k q' with h5 | h5
            · exfalso
              rcases Nat.lt_or_ge (k + 1) q' with h6 | h6
              · have := eS_lt hj hq' h6; omega
              · obtain rfl : q' = k + 1 := by omega
                rw [hj] at hq'; cases hq'; omega
            · obtain rfl : q' = k := by omega
              rw [hx] at hq'; cases hq'; rfl
        subst hi'
        obtain ⟨ii, jj, d1, d2, d3⟩ := differ_inv h4
        obtain ⟨g1, x1, v1, n1, off1, p1, p2⟩ := storeId_inv d1
        obtain ⟨g2, x2, v2, n2, off2, p3, p4⟩ := storeId_inv d2
        have hEx : isE o'.op = true := by rw [p1]; rfl
        have hsx : operRun R o' (Tf i') (Hf i') = some (Tf (i' + 1), Hf (i' + 1)) := g.step i' _ o' h2
        have st1 : Hf i = Hf (i' + 1) := g.still (s := i' + 1) (e := i) (Nat.le_of_lt hin) (fun y dy u y1 y2 y3 => ⟨h3 y dy u (by omega) y2 y3, by
          cases e : isA u.op with
          | false => rfl
          | true => have := masks_lt g.E _ _ (ahead y u (kind_op y3) (.inr (.inl e))).1; omega⟩) i (by omega) (Nat.le_refl _)
        have st2 : Hf ops.size = Hf (i + 1) := g.still (s := i + 1) (e := ops.size) (Nat.le_refl _) (fun y dy u y1 y2 y3 => ⟨by
          rw [kind_eff y3]
          cases e : isE u.op with
          | false => rfl
          | true =>
            obtain ⟨qy, hqy⟩ := eS_mem (kind_op y3) e
            have := (List.getElem?_eq_some_iff.1 hqy).1
            rcases Nat.lt_or_ge qy (k + 1) with h6 | h6
            · have := eS_lt hqy hj h6; omega
            · obtain rfl : qy = k + 1 := by omega
              rw [hj] at hqy; cases hqy; omega, by
          cases e : isA u.op with
          | false => rfl
          | true => have := masks_lt g.E _ _ (ahead y u (kind_op y3) (.inr (.inl e))).1; omega⟩) ops.size hin (Nat.le_refl _)
        rcases operRun_inv hs with ⟨hw, v, hv, e⟩ | ⟨hw, _, _⟩
        · rcases operRun_inv hsx with ⟨hw', v', hv', e'⟩ | ⟨hw', _, _⟩
          · rw [p1] at hv'
            rw [p3, st1] at hv
            obtain ⟨H3, H4, r1, r2, r3, r4, _⟩ := store_swap (e := ev (Tf i')) (e' := ev (Tf i)) hv' hv p2 p4 d3
            refine do_op hR hpr (G := Hf i') (H' := H3) (v := v) hr.op ho' (by rw [al.wants]; exact hw) (by rw [al.opE, p3]; exact r1) hhr s.tmps ?_
            intro β' w' a' e1 e2 e3 e4
            refine any2 hR hpr g hHo hQ fuel i' H3 _ β' a' w' (putD o.dst v Tc) ?_ (by omega)
            refine { toBase := s.toBase.list g hr ho e e3 e4, pre := fun jx y hy hyx => ?_, ahead := fun y u hy hu => ?_, ex := hex.trans e1, hr := e2, sw := .inl ⟨?_, o', v', H4, kind_op h2, hEx, g1, by rw [p1]; exact r2, e', by rw [st2]; exact r3, by rw [st2]; exact r4⟩ }
            · rw [set_get hlt]
              by_cases hyi : y = i
              · rw [if_pos hyi]
              · rw [if_neg hyi]
                obtain ⟨u, k1, k2⟩ := eS_op hy
                exact s.toBase.ancs hr (ahead y u k1 (.inr (.inr ⟨k2, hyx, hyi⟩))).2
            · rw [set_get hlt]
              split
              · rfl
              · exact s.toBase.ancs hr (ahead y u hy (hu.imp_right .inl)).2
            · rw [set_get hlt, if_neg (by omega)]; exact hux
          · rw [g1] at hw'; cases hw'
        · rw [g2] at hw; cases hw
    cases d with
    | l x y =>
      obtain ⟨hne, hL, rfl, rfl⟩ := kind_l hd
      have hA : isA o.op = false := by cases e : o.op <;> rw [e] at hL <;> first | rfl | cases hL
      rcases operRun_inv hs.1 with ⟨hw, v, hv, e⟩ | ⟨hw, e, _⟩
      · rw [opE_plain hne] at hv
        refine plain hne v e hw ?_ hA
        by_cases hxy : loOf ((mS ops).getD i 0) 0 0 (eS P N ops) = hiOf (mS ops) i 0 (eS P N ops)
        · have hk1 : loOf ((mS ops).getD i 0) 0 0 (eS P N ops) = k := by omega
          have hk2 : hiOf (mS ops) i 0 (eS P N ops) = k := by omega
          obtain ⟨h1, h2⟩ := in_stage g.E hin hk1 hk2
          exact (evalOp_look hL hv).2 _ (grow i _ h1 (Nat.le_of_lt h2) (Nat.le_refl _)).1
        · rcases ((floatsOk_spec g.fl i _ o hd).2 _ _ rfl) with h | ⟨x, ag, n, hop⟩ | ⟨st, x, hop⟩
          · exact absurd h hxy
          · rw [hop] at hv ⊢
            rcases evalOp_load hv with h0 | ⟨bi, off, vs, h1, h2, h3⟩
            · exact h0 _
            refine h3 _ ?_
            have hrec : Rcd.cells bi off n vs (loOf ((mS ops).getD i 0) 0 0 (eS P N ops)) (hiOf (mS ops) i 0 (eS P N ops)) ∈ rs := by
              refine hs.2 hxy _ ?_
              simp only [rcdOf, hw, hop, h1, h2, List.mem_singleton]
            exact rcd_cells (g.recs _ (.inl hrec) k s.kle lo hi')
          · rw [hop] at hv ⊢
            exact evalOp_len hv _
      · exact skip hne hw e
    | p =>
      obtain ⟨hne, hL, hloh⟩ := kind_p hd
      rcases operRun_inv hs with ⟨hw, v, hv, e⟩ | ⟨hw, e, _⟩
      · rw [opE_plain hne] at hv
        cases hA : isA o.op with
        | false => exact plain hne v e hw ((evalOp_pure hne hL hA hv).2 _) hA
        | true =>
          have hN := (floatsOk_spec g.fl i _ o hd).1 rfl hA
          obtain ⟨cs, hcs⟩ := evalOp_new hN hv
          have hll := hloh hA
          obtain ⟨h1, h2⟩ := in_stage (P := P) (N := N) (k := k) g.E hin (by omega) (by omega)
          have hgr := grow (i + 1) _ (by omega) h2 (Nat.le_refl _)
          have hget : (Hf (eAt P N ops k)).get (Hf i).nx = some (.cells cs .own) := hgr.1 _ _ (by rw [hcs]; exact get_push_same _ _)
          have hnx : (Hf i).nx < (Hf (eAt P N ops k)).nx := by
            have := hgr.2; rw [hcs] at this; simp [lay] at this; omega
          have hnone := s.u2 i o hd hA h1 h2 hw hun
          have hsi := (stg i h1 (Nat.le_of_lt h2)).2
          rw [hcs] at hv
          refine new_op (G := Hf (eAt P N ops k)) hr.op ho' (by rw [al.wants]; exact hw) hN (by rw [al.evalOp]; exact hv) s.hr s.tmps hnone hget hnx ?_
          intro z w' a' e2 e3 e4
          refine ih k _ (β.add (Hf i).nx z) a' w' (putD o.dst v Tc) ?_ (by omega)
          have hx : Ex Ho β0 (Hf (eAt P N ops k)) (β.add (Hf i).nx z) := ⟨s.ex.1, fun y hy => by rw [Beta.add_ne _ _ _ _ (by have := s.nx0; have := g.ple; omega)]; exact s.ex.2 y hy⟩
          refine s.stay g hr ho hne e e3 e4 hx e2 (fun j x y u _ hj hl => ?_) (fun j u hji hj hA' k1 k2 hw' hl => ?_)
          · obtain ⟨_, _, _, _, h3, _⟩ := g.step j _ _ hj
            have := g.qle
            have := s.nx0
            rw [Beta.add_ne _ _ _ _ (by omega)]
            exact s.u1 j x y u hj hl
          · have hne' : (Hf j).nx ≠ (Hf i).nx := by
              obtain ⟨hnej, hLj, _⟩ := kind_p hj
              rcases operRun_inv (g.step j _ _ hj) with ⟨_, v', hv', _⟩ | ⟨hw2, _⟩
              · rw [opE_plain hnej] at hv'
                obtain ⟨cs', hcs'⟩ := evalOp_new ((floatsOk_spec g.fl j _ u hj).1 rfl hA') hv'
                rcases Nat.lt_or_gt_of_ne hji with hlt' | hgt'
                · have := (grow (j + 1) i (by omega) hlt' (Nat.le_of_lt h2)).2
                  rw [hcs'] at this; simp [lay] at this; omega
                · have := (grow (i + 1) j (by omega) hgt' (Nat.le_of_lt k2)).2
                  rw [hcs] at this; simp [lay] at this; omega
              · rw [hw'] at hw2; cases hw2
            rw [Beta.add_ne _ _ _ _ hne']
            exact s.u2 j u hj hA' k1 k2 hw' hl
      · exact skip hne hw e
    | pre x y =>
      obtain ⟨hne, rfl, rfl⟩ := kind_pre hd
      obtain ⟨_, e, hgd, hp, hq, cs, hop, hrec⟩ := hs
      have hok := g.recs _ (.inr hrec) k s.kle lo hi'
      have hget : (Hf (eAt P N ops k)).get (idf i) = some (.cells cs .own) := rcd_fresh hok
      have hq2 := g.qle
      have hx1 := s.nx1
      have hnone := s.u1 i _ _ o hd hun
      refine new_op (G := Hf (eAt P N ops k)) (Hn := ⟨.leaf, idf i⟩) (cs := cs) (v := .ptr (idf i) 0) hr.op ho' (by rw [hgd]; rfl) (by rw [hop]; rfl) (by rw [hop]; rfl) s.hr s.tmps hnone hget (by show idf i < _; omega) ?_
      intro z w' a' e2 e3 e4
      refine ih k _ (β.add (idf i) z) a' w' (putD o.dst (.ptr (idf i) 0) Tc) ?_ (by omega)
      refine s.stay g hr ho hne e e3 e4 ?_ e2 (fun j x y u hji hj hl => ?_) (fun j u hji hj hA' k1 k2 hw' hl => ?_)
      · exact ⟨s.ex.1, fun y hy => by rw [Beta.add_ne _ _ _ _ (by show y ≠ idf i; omega)]; exact s.ex.2 y hy⟩
      · have : idf j ≠ idf i := by
          rcases Nat.lt_or_gt_of_ne hji with h | h
          · have := g.lt j i _ _ _ _ _ _ h hj hd; omega
          · have := g.lt i j _ _ _ _ _ _ h hd hj; omega
        rw [Beta.add_ne _ _ _ _ this]
        exact s.u1 j x y u hj hl
      · have h1 := (stg j k1 (Nat.le_of_lt k2)).2
        have h2 := s.nx0
        rw [Beta.add_ne _ _ _ _ (by show (Hf j).nx ≠ idf i; omega)]
        exact s.u2 j u hj hA' k1 k2 hw' hl
    | e => exact eff rfl hs
    | e2 => exact eff rfl hs
end
end

theorem posE_effs (ms es : List Nat) (sw : Option Nat) : ∀ (l : List AOper) (k : Nat), posE k (kindsF ms es sw k l) = effs k l := by
  intro l
  induction l with
  | nil => intro k; rfl
  | cons o l ih =>
    intro k
    simp only [kindsF, posE, effs]
    rw [ih]
    by_cases h1 : isE o.op = true
    · rw [if_pos h1, if_pos h1]
      split <;> rfl
    · rw [if_neg h1, if_neg h1]
      split
      · rfl
      · split
        · split <;> rfl
        · rfl

theorem stagesOk_spec {c : Rcd} : ∀ {Gs : List AHeap} {k : Nat}, stagesOk c k Gs = true → ∀ (i : Nat) (G : AHeap), Gs[i]? = some G → c.lo ≤ k + i → k + i ≤ c.hi → c.ok G = true := by
  intro Gs
  induction Gs with
  | nil => intro k _ i G h; simp at h
  | cons x Gs ih =>
    intro k h i G hi h1 h2
    simp only [stagesOk, Bool.and_eq_true] at h
    cases i with
    | zero =>
      simp at hi; subst hi
      have h3 := h.1
      rw [if_pos ⟨Nat.ble_eq_true_of_le (by simpa using h1), Nat.ble_eq_true_of_le (by simpa using h2)⟩] at h3
      exact h3
    | succ i => exact ih h.2 i G (by simpa using hi) (by omega) (by omega)
theorem rcdsOk_spec {Gs : List AHeap} : ∀ {rs : List Rcd}, rcdsOk Gs rs = true → ∀ c, c ∈ rs → stagesOk c 0 Gs = true := by
  intro rs
  induction rs with
  | nil => intro _ c h; cases h
  | cons x rs ih =>
    intro h c hc
    simp only [rcdsOk, Bool.and_eq_true] at h
    rcases List.mem_cons.1 hc with rfl | hc
    · exact h.1
    · exact ih h.2 c hc

theorem draw_sound {P : Program} {R : Rec} (hm : P.follows .mixedOrders = true) (hR : RSound P R) : DrawSound P R := by
  intro N id ops ks T T' H H' hc hrun B w0 pr β w a ro m Q h hpr hT hQ
  have hc' : (if (swapOk (mS ops) (eS P N ops) (oL P N ops) && edgesOk 0 ops.toList && chained (mS ops) (eS P N ops) && tmpsOk (mS ops) (writersF 0 (oL P N ops)) 0 (oL P N ops) && floatsOk (kS P N ops)) = true then ACode.draw (kS P N ops) else .bad) = .draw ks := hc
  clear hc
  rename _ => hc
  split at hc <;> first | (cases hc; done) | skip
  rename_i hchk
  simp only [Bool.and_eq_true] at hchk
  obtain ⟨⟨⟨⟨hsw, hE⟩, hch⟩, htm⟩, hfl⟩ := hchk
  cases hc
  unfold regionDraw at hrun
  split at hrun <;> first | (cases hrun; done) | skip
  rename_i sp hsp
  obtain ⟨Hq, ids, rs1⟩ := sp
  unfold drawEnd at hrun
  split at hrun <;> first | (cases hrun; done) | skip
  rename_i r hr
  split at hrun <;> cases hrun
  rename_i hok
  simp only [Bool.and_eq_true] at hok
  simp only at hr hok
  obtain ⟨Tf, Hf, idf, ht⟩ := trace hsp hr
  have hlen : (kS P N ops).length = ops.size := kS_len
  have hgs : r.Gs = (eS P N ops).map Hf ++ [Hf ops.size] := by
    have := ht.gs 0
    rw [posE_effs, hlen] at this
    simpa using this
  have hGk : ∀ k, k ≤ (eS P N ops).length → r.Gs[k]? = some (Hf (eAt P N ops k)) := by
    intro k hk
    rw [hgs]
    rcases Nat.lt_or_ge k (eS P N ops).length with h1 | h1
    · rw [List.getElem?_append_left (by simpa using h1), List.getElem?_map]
      obtain ⟨y, hy⟩ : ∃ y, (eS P N ops)[k]? = some y := ⟨_, List.getElem?_eq_getElem h1⟩
      rw [hy, eAt_some hy]; rfl
    · obtain rfl : k = (eS P N ops).length := by omega
      rw [List.getElem?_append_right (by simp), eAt_none (Nat.le_refl _)]
      simp
  have hnx := preRun_nx hsp
  have g : RG P R N ops r.rs rs1 H.nx Hq.nx Tf Hf idf :=
    { E := hE, ch := hch, sw := hsw, tm := htm, fl := hfl, step := ht.step, lt := ht.lt
      e2 := fun j o hj => by
        rcases ht.e2 j o hj with h1 | ⟨_, h1⟩
        · exact h1
        · simp [differ] at h1
      recs := fun c hc k hk h1 h2 => by
        have h3 : stagesOk c 0 r.Gs = true := by
          rcases hc with hc | hc
          · exact rcdsOk_spec hok.2 c hc
          · exact rcdsOk_spec hok.1 c hc
        exact stagesOk_spec h3 k _ (hGk k hk) (by omega) (by omega)
      qle := by rw [ht.h0]; exact Nat.le_refl _
      ple := by rw [ht.h0]; exact hnx }
  have hq := preRun_hr hsp (HR.drew h)
  have hn0 : ∀ z, H.nx ≤ z → β z = none := fun z hz => by
    cases e : β z with
    | none => rfl
    | some x => have := h.dom z x e; omega
  refine wpIn_region_any hm ?_
  have hs0 : sAt P N ops 0 = 0 := rfl
  have hF : Fresh (Hf 0) := by rw [ht.h0]; exact hq.free
  have hst := g.stage (s := 0) (e := eAt P N ops 0) (eAt_le _) (fun x d u h1 h2 h3 => stage_calm (k := 0) h1 h2 h3) hF _ (Nat.zero_le _) (Nat.le_refl _)
  refine any1 (B := B) (w0 := w0) (pr := pr) hR hpr g (Ho := H) (β0 := β) (ds := a.defers) (Nat.le_refl _) ?_ ops.size 0 _ β a _ T ?_ ?_
  · intro β' w' a' h1 h2 h3 h4
    rw [← hlen, ht.hn] at h1 h2
    rw [← hlen, ht.tn] at h3
    exact hQ β' w' a' h1 h2 h3 h4
  · have hno : ∀ i, (Array.replicate ops.size false).getD i false = false := fun i => by
      rw [Array.getD_eq_getD_getElem?, Array.getElem?_replicate]
      split <;> rfl
    refine { size := by simp, closed := fun i o e hi => (by simp only [hno] at hi; cases hi), tmps := hT, tcA := fun t i o hi => (by rw [hno] at hi; cases hi), tcB := fun t _ => by rw [ht.t0], defers := rfl, pre := fun j x hj => ?_, kle := Nat.zero_le _, fresh := by rw [hs0]; exact hF, nx0 := by rw [hs0]; exact Nat.le_refl _
             nx1 := hst.2.1, ex := ?_, hr := hst.2.2.2 _ _ _ _ _ (by rw [ht.h0]; exact hq), u1 := fun j x y u hj _ => ?_, u2 := fun j u hj hA h1 h2 _ _ => ?_ }
    · rw [hno]; simp
    · refine ⟨?_, fun _ _ => rfl⟩
      have := hst.2.1
      rw [ht.h0] at this; omega
    · obtain ⟨_, _, _, h1, _⟩ := g.step j _ _ hj
      exact hn0 _ h1
    · refine hn0 _ ?_
      have := (g.stage (s := 0) (e := eAt P N ops 0) (eAt_le _) (fun x d u h1 h2 h3 => stage_calm (k := 0) h1 h2 h3) hF j (Nat.zero_le _) (Nat.le_of_lt h2)).2.1
      rw [ht.h0] at this; omega
  · unfold cnt; simp

end Go.AM
/- From the abstract machine's run to the model's call. -/
namespace Go.AM
open Go Go.RowKit

theorem empty_hr (P : Program) (w : World) : HR P w.heap.size w [] (fun _ => none) AHeap.empty w :=
  { below := Below.refl _ _, base := Nat.le_refl _, dom := fun i x e => (by cases e), free := fun i _ => (by simp [AHeap.get, AHeap.empty, Tr.get_leaf])
    inj := fun i j x y o u _ e => (by cases e), obj := fun i x o e => (by cases e), prs := fun d h => (by cases h), blk := fun i x e => (by cases e) }

theorem calls_hr {P : Program} {tbl : Nat → Option AFn} (hm : P.follows .mixedOrders = true) (ht : TblOk P tbl) {n f : Nat} {args : List AV} {H H' : AHeap} {r : AV} (h : (runR tbl n).call f args H = some (r, H'))
    {B : Nat} {w0 w : World} {β : Beta} (hr : HR P B w0 [] β H w) {args' : Array Value} (ha : VRs β args args'.toList) : Calls P f args' w (Ret P B w0 [] β H r H') := by
  have := (run_sound ht (fun R h => draw_sound hm h) n).r.call f args H r H' h B w0 [] β w args' none 0 hr List.nodup_nil ha
  exact callsIn_wide.1 this

theorem calls_closed {P : Program} {tbl : Nat → Option AFn} (hm : P.follows .mixedOrders = true) (ht : TblOk P tbl) {n f : Nat} {args : List AV} {H' : AHeap} {r : AV} (h : (runR tbl n).call f args AHeap.empty = some (r, H'))
    (w : World) {args' : Array Value} (ha : VRs (fun _ => none) args args'.toList) : Calls P f args' w fun e w' => ∃ v β', e = .returned v ∧ VR β' r v ∧ Below w.heap.size w w' := by
  refine (calls_hr hm ht h (empty_hr P w) ha).mono ?_
  rintro e w' ⟨v, β', rfl, _, h2, h3⟩
  exact ⟨v, β', rfl, h3, h2.below⟩

theorem isTrue_spec {r : Option (AV × AHeap)} (h : isTrue r = true) : ∃ H, r = some (.bool true, H) := by
  unfold isTrue at h
  split at h
  · exact ⟨_, rfl⟩
  · cases h

/-- a closed call that says true -/
theorem calls_true {P : Program} {tbl : Nat → Option AFn} (hm : P.follows .mixedOrders = true) (ht : TblOk P tbl) {n f : Nat} (h : isTrue ((runR tbl n).call f [] AHeap.empty) = true)
    (w : World) : Calls P f #[] w fun e w' => e = .returned (.bool true) ∧ Below w.heap.size w w' := by
  obtain ⟨H, h⟩ := isTrue_spec h
  refine (calls_closed hm ht h w (args' := #[]) .nil).mono ?_
  rintro e w' ⟨v, β', rfl, h1, h2⟩
  exact ⟨by rw [vr_bool h1], h2⟩

/-! a table told by a trie -/
def AllT {α : Type} (Q : List Bool → α → Prop) : Tr α → List Bool → Prop
  | .leaf, _ => True
  | .node l v r, p => AllT Q l (false :: p) ∧ (∀ x, v = some x → Q p.reverse x) ∧ AllT Q r (true :: p)
theorem AllT.get {α : Type} {Q : List Bool → α → Prop} : ∀ {q : List Bool} {t : Tr α} {p : List Bool} {x : α}, AllT Q t p → t.get q = some x → Q (p.reverse ++ q) x := by
  intro q
  induction q with
  | nil =>
    intro t p x h e
    cases t with
    | leaf => cases e
    | node l v r => simpa using h.2.1 x e
  | cons b q ih =>
    intro t p x h e
    cases t with
    | leaf => simp [Tr.get, Tr.kid, Tr.get_leaf] at e
    | node l v r =>
      cases b with
      | false => simpa using ih h.1 e
      | true => simpa using ih h.2.2 e
theorem tblOk_of {P : Program} {tr : Tr AFn} (h : AllT (fun p x => ∃ k, p = path k ∧ (P.funcs[k]?).bind (cfn P) = some x) tr []) : TblOk P fun f => Tr.get tr (path f) := by
  intro f fn e
  obtain ⟨k, h1, h2⟩ := h.get e
  simp only [List.reverse_nil, List.nil_append] at h1
  have := path_inj h1
  subst this
  cases hg : P.funcs[f]? with
  | none => rw [hg] at h2; cases h2
  | some g => rw [hg] at h2; exact ⟨g, rfl, h2⟩
end Go.AM
/- Runs of the abstract machine, told without the level: what stands once stands at each higher level. -/
namespace Go.AM
open Go

/-- whatever the one says, the other says -/
structure Le (R R' : Rec) : Prop where
  call : ∀ f args H r, R.call f args H = some r → R'.call f args H = some r
  yld : ∀ i args H r, R.yld i args H = some r → R'.yld i args H = some r
  loop : ∀ a T H r, R.loop a T H = some r → R'.loop a T H = some r

theorem thenC_inv {r : Option (AExit × Fr × AHeap)} {k : Fr → AHeap → Option (AExit × Fr × AHeap)} {res : AExit × Fr × AHeap} (e : thenC r k = some res) :
    ∃ T0 H0, (r = some (.normal, T0, H0) ∧ k T0 H0 = some res) ∨ ∃ x, x ≠ .normal ∧ r = some (x, T0, H0) ∧ res = (x, T0, H0) := by
  cases r with
  | none => cases e
  | some s =>
    obtain ⟨x, T0, H0⟩ := s
    refine ⟨T0, H0, ?_⟩
    cases x with
    | normal => exact .inl ⟨rfl, e⟩
    | ret => cases e; exact .inr ⟨_, by simp, rfl, rfl⟩
    | exit i => cases e; exact .inr ⟨_, by simp, rfl, rfl⟩
theorem thenC_normal {T0 : Fr} {H0 : AHeap} {k : Fr → AHeap → Option (AExit × Fr × AHeap)} : thenC (some (.normal, T0, H0)) k = k T0 H0 := rfl
theorem thenC_other {x : AExit} (h : x ≠ .normal) {T0 : Fr} {H0 : AHeap} {k : Fr → AHeap → Option (AExit × Fr × AHeap)} : thenC (some (x, T0, H0)) k = some (x, T0, H0) := by
  cases x with
  | normal => exact absurd rfl h
  | ret => rfl
  | exit i => rfl

section
variable {R R' : Rec} (h : Le R R')
include h

theorem Le.callV {f : AV} {args : List AV} {H : AHeap} {r : AV × AHeap} (e : callV R f args H = some r) : AM.callV R' f args H = some r := by
  unfold AM.callV at e ⊢
  split at e
  · exact h.call _ _ _ _ e
  · exact h.yld _ _ _ _ e
  · cases e
theorem Le.oper1 {op : AOp} {T : Fr} {H : AHeap} {r : AV × AHeap} (e : oper1 R op T H = some r) : AM.oper1 R' op T H = some r := by
  cases op
  case call f args => exact h.call _ _ _ _ e
  case callv x args => exact h.callV e
  all_goals exact e
theorem Le.operRun {o : AOper} {T : Fr} {H : AHeap} {r : Fr × AHeap} (e : operRun R o T H = some r) : AM.operRun R' o T H = some r := by
  unfold AM.operRun at e ⊢
  split at e
  · rename_i hw
    split at e <;> cases e
    rename_i v H' ho
    rw [h.oper1 ho]
  · exact e
  · cases e
theorem Le.opsRun : ∀ {ops : List AOper} {T : Fr} {H : AHeap} {r : Fr × AHeap}, opsRun R ops T H = some r → AM.opsRun R' ops T H = some r := by
  intro ops
  induction ops with
  | nil => intro T H r e; exact e
  | cons o ops ih =>
    intro T H r e
    simp only [AM.opsRun] at e ⊢
    split at e <;> first | (cases e; done) | skip
    rename_i T' H' ho
    rw [h.operRun ho]
    exact ih e
theorem Le.drawRun : ∀ {ops : List (DK × AOper)} {prev : Option Nat} {ids : List Nat} {T : Fr} {H : AHeap} {r : DRes}, drawRun R prev ids ops T H = some r → AM.drawRun R' prev ids ops T H = some r := by
  intro ops
  induction ops with
  | nil => intro prev ids T H r e; exact e
  | cons x ops ih =>
    intro prev ids T H r e
    obtain ⟨d, o⟩ := x
    cases d with
    | pre a b =>
      simp only [AM.drawRun] at e ⊢
      split at e <;> first | (cases e; done) | skip
      exact ih e
    | e =>
      simp only [AM.drawRun] at e ⊢
      split at e <;> first | (cases e; done) | skip
      rename_i s ho
      rw [h.operRun ho]
      unfold DRes.stage at e ⊢
      split at e <;> cases e
      rename_i r' hr
      simp only [ih hr]
    | e2 =>
      simp only [AM.drawRun] at e ⊢
      split at e <;> first | (cases e; done) | skip
      rename_i hd
      split at e <;> first | (cases e; done) | skip
      rename_i s ho
      rw [if_pos hd, h.operRun ho]
      unfold DRes.stage at e ⊢
      split at e <;> cases e
      rename_i r' hr
      simp only [ih hr]
    | l a b =>
      simp only [AM.drawRun] at e ⊢
      split at e <;> first | (cases e; done) | skip
      rename_i s ho
      rw [h.operRun ho]
      unfold DRes.note at e ⊢
      split at e <;> cases e
      rename_i r' hr
      simp only [ih hr]
    | p =>
      simp only [AM.drawRun] at e ⊢
      split at e <;> first | (cases e; done) | skip
      rename_i s ho
      rw [h.operRun ho]
      exact ih e
theorem Le.regionDraw {ops : List (DK × AOper)} {T : Fr} {H : AHeap} {r : Fr × AHeap} (e : regionDraw R ops T H = some r) : AM.regionDraw R' ops T H = some r := by
  unfold AM.regionDraw at e ⊢
  split at e <;> first | (cases e; done) | skip
  rename_i s hs
  unfold drawEnd at e
  split at e <;> first | (cases e; done) | skip
  rename_i r' hr
  simp only [h.drawRun hr, drawEnd]
  exact e
theorem Le.code : ∀ {c : ACode} {T : Fr} {H : AHeap} {r : AExit × Fr × AHeap}, code R c T H = some r → AM.code R' c T H = some r := by
  intro c
  induction c with
  | bad => intro T H r e; cases e
  | skip => intro T H r e; exact e
  | region ops =>
    intro T H r e
    simp only [AM.code] at e ⊢
    unfold normC at e
    split at e <;> cases e
    rename_i s hs
    rw [h.opsRun hs]; rfl
  | draw ops =>
    intro T H r e
    simp only [AM.code] at e ⊢
    unfold normC at e
    split at e <;> cases e
    rename_i s hs
    rw [h.regionDraw hs]; rfl
  | seq a b iha ihb =>
    intro T H r e
    simp only [AM.code] at e ⊢
    obtain ⟨T0, H0, ⟨h1, h2⟩ | ⟨x, h1, h2, rfl⟩⟩ := thenC_inv e
    · rw [iha h1, thenC_normal]; exact ihb h2
    · rw [iha h2, thenC_other h1]
  | cond x a b iha ihb =>
    intro T H r e
    simp only [AM.code] at e ⊢
    split at e
    · exact iha e
    · exact ihb e
    · cases e
  | block id a iha =>
    intro T H r e
    simp only [AM.code] at e ⊢
    unfold blockC at e
    split at e <;> first | (cases e; done) | skip
    rename_i s hs
    rw [iha hs]
    exact e
  | loop a _ => intro T H r e; exact h.loop _ _ _ _ e
  | exit id => intro T H r e; exact e
  | ret => intro T H r e; exact e
  | rangef f ps assign body _ _ =>
    intro T H r e
    simp only [AM.code] at e ⊢
    unfold rangeC at e ⊢
    split at e <;> first | (cases e; done) | skip
    split at e <;> first | (cases e; done) | skip
    rename_i r' hr
    rw [h.call _ _ _ _ hr]
    exact e
end

theorem Le.refl (R : Rec) : Le R R := ⟨fun _ _ _ _ h => h, fun _ _ _ _ h => h, fun _ _ _ _ h => h⟩
theorem Le.trans {A B C : Rec} (h : Le A B) (k : Le B C) : Le A C := ⟨fun f a H r e => k.call f a H r (h.call f a H r e), fun f a H r e => k.yld f a H r (h.yld f a H r e), fun f a H r e => k.loop f a H r (h.loop f a H r e)⟩
theorem Le.step {tbl : Nat → Option AFn} {R R' : Rec} (h : Le R R') : Le (stepR tbl R) (stepR tbl R') where
  call := fun f args H r e => by
    simp only [stepR, callF] at e ⊢
    split at e <;> first | (cases e; done) | skip
    rename_i fn hf
    unfold leaveF at e
    split at e <;> first | (cases e; done) | skip
    rename_i s hs
    rw [h.code hs]
    exact e
  yld := fun i args H r e => by
    simp only [stepR, yldF] at e ⊢
    split at e <;> first | (cases e; done) | skip
    split at e <;> first | (cases e; done) | skip
    split at e <;> first | (cases e; done) | skip
    rename_i ha
    rw [h.code ha]
    split at e <;> first | (cases e; done) | skip
    rename_i L2 hL
    split at e <;> first | (cases e; done) | skip
    rename_i hst
    split at e <;> first | (cases e; done) | skip
    rename_i hb
    simp only [hL, hst, h.code hb]
    exact e
  loop := fun a T H r e => by
    simp only [stepR, loopF] at e ⊢
    obtain ⟨T0, H0, ⟨h1, h2⟩ | ⟨x, h1, h2, rfl⟩⟩ := thenC_inv e
    · rw [h.code h1, thenC_normal]; exact h.loop _ _ _ _ h2
    · rw [h.code h2, thenC_other h1]
theorem runR_le_succ (tbl : Nat → Option AFn) : ∀ n, Le (runR tbl n) (runR tbl (n + 1)) := by
  intro n
  induction n with
  | zero => exact ⟨fun _ _ _ _ e => (by cases e), fun _ _ _ _ e => (by cases e), fun _ _ _ _ e => (by cases e)⟩
  | succ n ih => exact ih.step
theorem runR_le (tbl : Nat → Option AFn) {n m : Nat} (h : n ≤ m) : Le (runR tbl n) (runR tbl m) := by
  induction h with
  | refl => exact Le.refl _
  | step _ ih => exact ih.trans (runR_le_succ tbl _)

end Go.AM
/- Runs of the abstract machine carried out by rewriting: what is still to be done is told as a list. -/
namespace Go.AM
open Go

/-- what is still to be done -/
inductive KI where
  | code (c : ACode)
  | ops (l : List AOper)
  | blk (id : Nat)
  | drw (prev : Option Nat) (ids : List Nat) (fx : Nat) (Gs : List AHeap) (rs : List Rcd) (l : List (DK × AOper))

abbrev St3 := AExit × Fr × AHeap

def stepD (rs : List Rcd) (Gs : List AHeap) : Option DRes → Option St3
  | some r => if rcdsOk (Gs.reverse ++ r.Gs) (rs ++ r.rs) then some (.normal, r.T, r.H) else none
  | none => none

def doK (R : Rec) : KI → St3 → Option St3
  | .code c, (.normal, T, H) => code R c T H
  | .ops l, (.normal, T, H) => normC (opsRun R l T H)
  | .drw prev ids fx Gs rs l, (.normal, T, H) => stepD rs Gs (drawRun R prev ids l T H)
  | .blk id, (.exit i, T, H) => if Nat.beq i id then some (.normal, T, H) else some (.exit i, T, H)
  | _, s => some s
def contK (R : Rec) : List KI → St3 → Option St3
  | [], s => some s
  | x :: k, s =>
    match doK R x s with
    | some s' => contK R k s'
    | none => none

def GoA (tbl : Nat → Option AFn) (k : List KI) (e : AExit) (T : Fr) (H : AHeap) (Q : AExit → Fr → AHeap → Prop) : Prop :=
  ∃ n s, contK (runR tbl n) k (e, T, H) = some s ∧ Q s.1 s.2.1 s.2.2
def CallA (tbl : Nat → Option AFn) (f : Nat) (args : List AV) (H : AHeap) (Q : AV → AHeap → Prop) : Prop :=
  ∃ n r, (runR tbl n).call f args H = some r ∧ Q r.1 r.2
def YldA (tbl : Nat → Option AFn) (i : Nat) (args : List AV) (H : AHeap) (Q : AV → AHeap → Prop) : Prop :=
  ∃ n r, (runR tbl n).yld i args H = some r ∧ Q r.1 r.2

theorem Le.doK {R R' : Rec} (h : Le R R') {x : KI} {s r : St3} (e : doK R x s = some r) : AM.doK R' x s = some r := by
  obtain ⟨ex, T, H⟩ := s
  cases x with
  | code c => cases ex <;> first | exact h.code e | exact e
  | ops l =>
    cases ex <;> first | exact e | skip
    simp only [AM.doK] at e ⊢
    unfold normC at e
    split at e <;> cases e
    rename_i s hs
    rw [h.opsRun hs]; rfl
  | blk id => cases ex <;> exact e
  | drw prev ids fx Gs rs l =>
    cases ex <;> first | exact e | skip
    simp only [AM.doK] at e ⊢
    unfold stepD at e
    split at e <;> first | (cases e; done) | skip
    rename_i r' hr
    rw [h.drawRun hr]
    exact e
theorem Le.contK {R R' : Rec} (h : Le R R') : ∀ {k : List KI} {s r : St3}, contK R k s = some r → AM.contK R' k s = some r := by
  intro k
  induction k with
  | nil => intro s r e; exact e
  | cons x k ih =>
    intro s r e
    simp only [AM.contK] at e ⊢
    split at e <;> first | (cases e; done) | skip
    rename_i s' hs
    rw [h.doK hs]
    exact ih e

section
variable {tbl : Nat → Option AFn} {k : List KI} {T : Fr} {H : AHeap} {Q : AExit → Fr → AHeap → Prop}

theorem GoA.mono {e : AExit} {Q' : AExit → Fr → AHeap → Prop} (h : GoA tbl k e T H Q) (hq : ∀ e T H, Q e T H → Q' e T H) : GoA tbl k e T H Q' :=
  let ⟨n, s, a, b⟩ := h; ⟨n, s, a, hq _ _ _ b⟩
theorem CallA.mono {f : Nat} {args : List AV} {Q Q' : AV → AHeap → Prop} (h : CallA tbl f args H Q) (hq : ∀ r H, Q r H → Q' r H) : CallA tbl f args H Q' :=
  let ⟨n, s, a, b⟩ := h; ⟨n, s, a, hq _ _ b⟩
theorem YldA.mono {f : Nat} {args : List AV} {Q Q' : AV → AHeap → Prop} (h : YldA tbl f args H Q) (hq : ∀ r H, Q r H → Q' r H) : YldA tbl f args H Q' :=
  let ⟨n, s, a, b⟩ := h; ⟨n, s, a, hq _ _ b⟩

/-- one item is done, the others go on -/
theorem GoA.step {x : KI} {e : AExit} {n : Nat} {e' : AExit} {T' : Fr} {H' : AHeap} (h : doK (runR tbl n) x (e, T, H) = some (e', T', H')) (g : GoA tbl k e' T' H' Q) : GoA tbl (x :: k) e T H Q := by
  obtain ⟨m, s, h1, h2⟩ := g
  refine ⟨max n m, s, ?_, h2⟩
  simp only [contK, (runR_le tbl (Nat.le_max_left n m)).doK h]
  exact (runR_le tbl (Nat.le_max_right n m)).contK h1

theorem go_nil {e : AExit} : GoA tbl [] e T H Q ↔ Q e T H :=
  ⟨fun ⟨_, s, a, b⟩ => by cases a; exact b, fun h => ⟨0, _, rfl, h⟩⟩

/-- where two lists are carried out alike -/
theorem GoA.congr {k k' : List KI} {e e' : AExit} {T T' : Fr} {H H' : AHeap} (h : ∀ R, contK R k (e, T, H) = contK R k' (e', T', H')) : GoA tbl k e T H Q ↔ GoA tbl k' e' T' H' Q := by
  simp only [GoA, h]

theorem go_seq {a b : ACode} : GoA tbl (.code (.seq a b) :: k) .normal T H Q ↔ GoA tbl (.code a :: .code b :: k) .normal T H Q := by
  refine GoA.congr fun R => ?_
  simp only [contK, doK, code]
  cases h : code R a T H with
  | none => rfl
  | some s =>
    obtain ⟨e, T', H'⟩ := s
    cases e <;> rfl
theorem go_skip : GoA tbl (.code .skip :: k) .normal T H Q ↔ GoA tbl k .normal T H Q := GoA.congr fun _ => rfl
theorem go_region {l : List AOper} : GoA tbl (.code (.region l) :: k) .normal T H Q ↔ GoA tbl (.ops l :: k) .normal T H Q := GoA.congr fun _ => rfl
theorem go_block {id : Nat} {a : ACode} : GoA tbl (.code (.block id a) :: k) .normal T H Q ↔ GoA tbl (.code a :: .blk id :: k) .normal T H Q := by
  refine GoA.congr fun R => ?_
  simp only [contK, doK, code]
  cases h : code R a T H with
  | none => rfl
  | some s =>
    obtain ⟨e, T', H'⟩ := s
    cases e <;> rfl
theorem go_exit {i : Nat} : GoA tbl (.code (.exit i) :: k) .normal T H Q ↔ GoA tbl k (.exit i) T H Q := GoA.congr fun _ => rfl
theorem go_ret : GoA tbl (.code .ret :: k) .normal T H Q ↔ GoA tbl k .ret T H Q := GoA.congr fun _ => rfl
theorem go_code_exit {c : ACode} {i : Nat} : GoA tbl (.code c :: k) (.exit i) T H Q ↔ GoA tbl k (.exit i) T H Q := GoA.congr fun _ => rfl
theorem go_code_ret {c : ACode} : GoA tbl (.code c :: k) .ret T H Q ↔ GoA tbl k .ret T H Q := GoA.congr fun _ => rfl
theorem go_blk {id : Nat} : GoA tbl (.blk id :: k) .normal T H Q ↔ GoA tbl k .normal T H Q := GoA.congr fun _ => rfl
theorem go_blk_ret {id : Nat} : GoA tbl (.blk id :: k) .ret T H Q ↔ GoA tbl k .ret T H Q := GoA.congr fun _ => rfl
theorem go_blk_exit {id i : Nat} : GoA tbl (.blk id :: k) (.exit i) T H Q ↔ if i = id then GoA tbl k .normal T H Q else GoA tbl k (.exit i) T H Q := by
  split
  · rename_i h
    subst h
    refine GoA.congr fun R => ?_
    simp [contK, doK]
  · rename_i h
    refine GoA.congr fun R => ?_
    have : Nat.beq i id = false := by
      cases e : Nat.beq i id with
      | false => rfl
      | true => exact absurd (Nat.eq_of_beq_eq_true e) h
    simp only [contK, doK, this]
    rfl
theorem go_cond {c : AX} {a b : ACode} : GoA tbl (.code (.cond c a b) :: k) .normal T H Q ↔
    (match asB (ev T c) with | some true => GoA tbl (.code a :: k) .normal T H Q | some false => GoA tbl (.code b :: k) .normal T H Q | none => False) := by
  cases h : asB (ev T c) with
  | none => simp [GoA, contK, doK, code, h]
  | some x => cases x <;> (refine GoA.congr fun R => ?_) <;> simp only [contK, doK, code, h]
theorem match_asB {p q : Prop} (b : Bool) : (match some b with | some true => p | some false => q | none => False) ↔ if b = true then p else q := by cases b <;> simp
theorem go_loop {a : ACode} : GoA tbl (.code (.loop a) :: k) .normal T H Q ↔ GoA tbl (.code a :: .code (.loop a) :: k) .normal T H Q := by
  have key : ∀ n, contK (runR tbl (n + 1)) (.code (.loop a) :: k) (.normal, T, H) = (match thenC (code (runR tbl n) a T H) ((runR tbl n).loop a) with | some s => contK (runR tbl (n + 1)) k s | none => none) := fun n => rfl
  constructor
  · rintro ⟨n, s, h1, h2⟩
    cases n with
    | zero => simp [contK, doK, code, runR, noneR] at h1
    | succ n =>
      rw [key] at h1
      split at h1 <;> first | (cases h1; done) | skip
      rename_i s' hs
      obtain ⟨T0, H0, ⟨g1, g2⟩ | ⟨x, g1, g2, rfl⟩⟩ := thenC_inv hs
      · refine ⟨n + 1, s, ?_, h2⟩
        simp only [contK, doK, (runR_le_succ tbl n).code g1, code, (runR_le_succ tbl n).loop _ _ _ _ g2, h1]
      · refine ⟨n + 1, s, ?_, h2⟩
        simp only [contK, doK, (runR_le_succ tbl n).code g2]
        cases x with
        | normal => exact absurd rfl g1
        | ret => exact h1
        | exit i => exact h1
  · rintro ⟨n, s, h1, h2⟩
    refine ⟨n + 1, s, ?_, h2⟩
    rw [key]
    simp only [contK, doK] at h1
    split at h1 <;> first | (cases h1; done) | skip
    rename_i s' hs
    obtain ⟨x, T0, H0⟩ := s'
    rw [hs]
    cases x with
    | normal =>
      simp only [doK, code] at h1
      rw [thenC_normal]
      split at h1 <;> first | (cases h1; done) | skip
      rename_i s2 hs2
      rw [hs2]
      exact (runR_le_succ tbl n).contK h1
    | ret => exact (runR_le_succ tbl n).contK h1
    | exit i => exact (runR_le_succ tbl n).contK h1

theorem go_ops_nil : GoA tbl (.ops [] :: k) .normal T H Q ↔ GoA tbl k .normal T H Q := GoA.congr fun _ => rfl
/-- a plain operation -/
theorem go_plain {d : Option (List Bool)} {op : AOp} {r : List AOper} (hc : isE op = false ∨ (∀ f a, op ≠ .call f a) ∧ ∀ x a, op ≠ .callv x a) :
    GoA tbl (.ops (⟨d, op, none⟩ :: r) :: k) .normal T H Q ↔ (match evalOp (ev T) op H with | some (v, H') => GoA tbl (.ops r :: k) .normal (putD d v T) H' Q | none => False) := by
  have hp : ∀ R, oper1 R op T H = evalOp (ev T) op H := by
    intro R
    cases op
    case call f a => rcases hc with h | h; cases h; exact absurd rfl (h.1 f a)
    case callv f a => rcases hc with h | h; cases h; exact absurd rfl (h.2 f a)
    all_goals rfl
  cases he : evalOp (ev T) op H with
  | none => simp [GoA, contK, doK, opsRun, operRun, wants, hp, he, normC]
  | some s =>
    obtain ⟨v, H'⟩ := s
    refine GoA.congr fun R => ?_
    simp only [contK, doK, opsRun, operRun, wants, hp, he]
/-- an operation with a guard -/
theorem go_guard {d : Option (List Bool)} {op : AOp} {p : List Bool} {b : Bool} {r : List AOper} :
    GoA tbl (.ops (⟨d, op, some (p, b)⟩ :: r) :: k) .normal T H Q ↔
      (match asW b (Fr.at_ T p) with | some c => if c = b then GoA tbl (.ops (⟨d, op, none⟩ :: r) :: k) .normal T H Q else GoA tbl (.ops r :: k) .normal (putD d (.tup []) T) H Q | none => False) := by
  cases h : asW b (Fr.at_ T p) with
  | none => simp [GoA, contK, doK, opsRun, operRun, wants, h, normC]
  | some c =>
    simp only
    split
    · rename_i e
      refine GoA.congr fun R => ?_
      have : boolEq b c = true := by subst e; cases c <;> rfl
      simp only [contK, doK, opsRun, operRun, wants, h, this]
    · rename_i e
      refine GoA.congr fun R => ?_
      have : boolEq b c = false := by cases b <;> cases c <;> first | rfl | exact absurd rfl e
      simp only [contK, doK, opsRun, operRun, wants, h, this]
theorem go_call_of {d : Option (List Bool)} {f : Nat} {a : List AX} {r : List AOper} (h : CallA tbl f (evs (ev T) a) H (fun v H' => GoA tbl (.ops r :: k) .normal (putD d v T) H' Q)) :
    GoA tbl (.ops (⟨d, .call f a, none⟩ :: r) :: k) .normal T H Q := by
  obtain ⟨n, ⟨v, H'⟩, h1, m, s, h2, h3⟩ := h
  refine ⟨max n m, s, ?_, h3⟩
  have h1' := (runR_le tbl (Nat.le_max_left n m)).call _ _ _ _ h1
  have h2' := (runR_le tbl (Nat.le_max_right n m)).contK h2
  simp only [contK, doK] at h2' ⊢
  simp only [opsRun, operRun, wants, oper1, h1']
  exact h2'
theorem go_callv_of {d : Option (List Bool)} {x : AX} {a : List AX} {r : List AOper} {f : Nat} {first cap : List AV} (hx : ev T x = .fn f first cap)
    (h : CallA tbl f (first ++ (evs (ev T) a ++ cap)) H (fun v H' => GoA tbl (.ops r :: k) .normal (putD d v T) H' Q)) :
    GoA tbl (.ops (⟨d, .callv x a, none⟩ :: r) :: k) .normal T H Q := by
  obtain ⟨n, ⟨v, H'⟩, h1, m, s, h2, h3⟩ := h
  refine ⟨max n m, s, ?_, h3⟩
  have h1' := (runR_le tbl (Nat.le_max_left n m)).call _ _ _ _ h1
  have h2' := (runR_le tbl (Nat.le_max_right n m)).contK h2
  simp only [contK, doK] at h2' ⊢
  simp only [opsRun, operRun, wants, oper1, hx, callV, h1']
  exact h2'
theorem go_yld_of {d : Option (List Bool)} {x : AX} {a : List AX} {r : List AOper} {i : Nat} (hx : ev T x = .yld i)
    (h : YldA tbl i (evs (ev T) a) H (fun v H' => GoA tbl (.ops r :: k) .normal (putD d v T) H' Q)) :
    GoA tbl (.ops (⟨d, .callv x a, none⟩ :: r) :: k) .normal T H Q := by
  obtain ⟨n, ⟨v, H'⟩, h1, m, s, h2, h3⟩ := h
  refine ⟨max n m, s, ?_, h3⟩
  have h1' := (runR_le tbl (Nat.le_max_left n m)).yld _ _ _ _ h1
  have h2' := (runR_le tbl (Nat.le_max_right n m)).contK h2
  simp only [contK, doK] at h2' ⊢
  simp only [opsRun, operRun, wants, oper1, hx, callV, h1']
  exact h2'

/-! regions that draw -/
theorem rcdsOk_append {Gs : List AHeap} : ∀ {a b : List Rcd}, rcdsOk Gs (a ++ b) = (rcdsOk Gs a && rcdsOk Gs b) := by
  intro a
  induction a with
  | nil => intro b; simp [rcdsOk]
  | cons x a ih => intro b; simp [rcdsOk, ih, Bool.and_assoc]
theorem go_draw {l : List (DK × AOper)} : GoA tbl (.code (.draw l) :: k) .normal T H Q ↔
    (match preRun l H with | some (H', ids, rs) => GoA tbl (.drw none ids 0 [] rs l :: k) .normal T H' Q | none => False) := by
  cases h : preRun l H with
  | none => simp [GoA, contK, doK, code, regionDraw, h, normC]
  | some s =>
    obtain ⟨H', ids, rs⟩ := s
    refine GoA.congr fun R => ?_
    simp only [contK, doK, code, regionDraw, h]
    cases hd : drawRun R none ids l T H' with
    | none => rfl
    | some r =>
      simp only [drawEnd, stepD, List.reverse_nil, List.nil_append, rcdsOk_append, normC]
      cases hb : (rcdsOk r.Gs rs && rcdsOk r.Gs r.rs) <;> rfl
theorem go_drw_nil {prev : Option Nat} {fx : Nat} {ids : List Nat} {Gs : List AHeap} {rs : List Rcd} : GoA tbl (.drw prev ids fx Gs rs [] :: k) .normal T H Q ↔ rcdsOk (Gs.reverse ++ [H]) rs = true ∧ GoA tbl k .normal T H Q := by
  by_cases h : rcdsOk (Gs.reverse ++ [H]) rs = true
  · simp only [h, true_and]
    refine GoA.congr fun R => ?_
    simp only [contK, doK, drawRun, stepD, List.append_nil, h, if_true]
  · refine ⟨fun ⟨n, s, h1, _⟩ => ?_, fun h1 => absurd h1.1 h⟩
    exfalso
    simp [contK, doK, drawRun, stepD, h] at h1
theorem go_drw_p {prev : Option Nat} {fx : Nat} {ids : List Nat} {Gs : List AHeap} {rs : List Rcd} {o : AOper} {l : List (DK × AOper)} :
    GoA tbl (.drw prev ids fx Gs rs ((.p, o) :: l) :: k) .normal T H Q ↔ GoA tbl (.ops [o] :: .drw prev ids fx Gs rs l :: k) .normal T H Q := by
  refine GoA.congr fun R => ?_
  simp only [contK, doK, drawRun, opsRun]
  cases h : operRun R o T H with
  | none => rfl
  | some s => rfl
def recD (lo hi : Nat) (o : AOper) (T : Fr) (H : AHeap) : List Rcd := if Nat.beq lo hi then [] else rcdOf lo hi o T H
theorem recD_same (lo : Nat) (o : AOper) (T : Fr) (H : AHeap) : recD lo lo o T H = [] := by simp [recD]
theorem go_drw_l {prev : Option Nat} {fx : Nat} {ids : List Nat} {Gs : List AHeap} {rs : List Rcd} {o : AOper} {l : List (DK × AOper)} {lo hi : Nat} :
    GoA tbl (.drw prev ids fx Gs rs ((.l lo hi, o) :: l) :: k) .normal T H Q ↔ GoA tbl (.ops [o] :: .drw prev ids fx Gs (rs ++ recD lo hi o T H) l :: k) .normal T H Q := by
  refine GoA.congr fun R => ?_
  simp only [contK, doK, drawRun, opsRun]
  cases h : operRun R o T H with
  | none => rfl
  | some s =>
    simp only [normC, doK]
    cases hd : drawRun R prev ids l s.1 s.2 with
    | none => rfl
    | some r => simp only [DRes.note, stepD, List.append_assoc, recD]
theorem go_drw_e {prev : Option Nat} {fx : Nat} {ids : List Nat} {Gs : List AHeap} {rs : List Rcd} {o : AOper} {l : List (DK × AOper)} :
    GoA tbl (.drw prev ids fx Gs rs ((.e, o) :: l) :: k) .normal T H Q ↔ GoA tbl (.ops [o] :: .drw (storeId o T) ids fx (H :: Gs) rs l :: k) .normal T H Q := by
  refine GoA.congr fun R => ?_
  simp only [contK, doK, drawRun, opsRun]
  cases h : operRun R o T H with
  | none => rfl
  | some s =>
    simp only [normC, doK]
    cases hd : drawRun R (storeId o T) ids l s.1 s.2 with
    | none => rfl
    | some r => simp only [DRes.stage, stepD, List.reverse_cons, List.append_assoc, List.singleton_append]
theorem go_drw_e2 {prev : Option Nat} {fx : Nat} {ids : List Nat} {Gs : List AHeap} {rs : List Rcd} {o : AOper} {l : List (DK × AOper)} :
    GoA tbl (.drw prev ids fx Gs rs ((.e2, o) :: l) :: k) .normal T H Q ↔ differ prev (storeId o T) = true ∧ GoA tbl (.ops [o] :: .drw none ids fx (H :: Gs) rs l :: k) .normal T H Q := by
  by_cases hdf : differ prev (storeId o T) = true
  · simp only [hdf, true_and]
    refine GoA.congr fun R => ?_
    simp only [contK, doK, drawRun, opsRun, hdf, if_true]
    cases h : operRun R o T H with
    | none => rfl
    | some s =>
      simp only [normC, doK]
      cases hd : drawRun R none ids l s.1 s.2 with
      | none => rfl
      | some r => simp only [DRes.stage, stepD, List.reverse_cons, List.append_assoc, List.singleton_append]
  · refine ⟨fun ⟨n, s, h1, _⟩ => ?_, fun h1 => absurd h1.1 hdf⟩
    exfalso
    simp [contK, doK, drawRun, stepD, hdf] at h1
theorem go_drw_pre {prev : Option Nat} {fx : Nat} {id : Nat} {ids : List Nat} {Gs : List AHeap} {rs : List Rcd} {o : AOper} {l : List (DK × AOper)} {a b : Nat} :
    GoA tbl (.drw prev (id :: ids) fx Gs rs ((.pre a b, o) :: l) :: k) .normal T H Q ↔ GoA tbl (.drw prev ids fx Gs rs l :: k) .normal (putD o.dst (.ptr id 0) T) H Q := by
  refine GoA.congr fun R => ?_
  simp only [contK, doK, drawRun]

/-- a call, out of its body -/
theorem call_of {f : Nat} {fn : AFn} {args : List AV} {Q : AV → AHeap → Prop} (hf : tbl f = some fn)
    (h : GoA tbl [.code fn.body] .normal (frameOf 0 args .leaf) H fun e T' H' => (∀ i, e ≠ .exit i) ∧ ∃ vs, resRun fn.results T' H' = some vs ∧ Q (oneOrTup vs) H') : CallA tbl f args H Q := by
  obtain ⟨n, ⟨e, T', H'⟩, h1, h2, vs, h3, h4⟩ := h
  refine ⟨n + 1, (oneOrTup vs, H'), ?_, h4⟩
  simp only [contK, doK] at h1
  split at h1 <;> cases h1
  rename_i hs
  show callF tbl (runR tbl n) f args H = _
  simp only [callF, hf, leaveF, hs]
  cases e with
  | exit i => exact absurd rfl (h2 i)
  | normal => simp only [h3]
  | ret => simp only [h3]
end

/-! frames, told by numbers -/
def gN (T : Fr) (k : Nat) : AV := Fr.at_ T (path k)
def sN (T : Fr) (k : Nat) (v : AV) : Fr := Tr.set T (path k) v
theorem gN_sN (T : Fr) (j k : Nat) (v : AV) : gN (sN T j v) k = if j = k then v else gN T k := by
  unfold gN sN
  split
  · rename_i h; subst h; exact at_set_same ..
  · rename_i h; exact at_set_ne _ _ _ _ (path_ne h)
theorem gN_leaf (k : Nat) : gN .leaf k = .undef := by simp [gN, Fr.at_, Tr.get_leaf]

end Go.AM
/- The operations, as rewriting rules on what is known of the values. -/
namespace Go.AM
open Go

section
variable {tbl : Nat → Option AFn} {k : List KI} {T : Fr} {H : AHeap} {Q : AExit → Fr → AHeap → Prop} {d : Option (List Bool)} {r : List AOper}

theorem plain_ok (op : AOp) (h : (match op with | .call .. => false | .callv .. => false | _ => true) = true) : isE op = false ∨ (∀ f a, op ≠ .call f a) ∧ ∀ x a, op ≠ .callv x a := by
  right
  constructor <;> intro _ _ e <;> subst e <;> cases h
theorem go_mov {x : AX} : GoA tbl (.ops (⟨d, .mov x, none⟩ :: r) :: k) .normal T H Q ↔ GoA tbl (.ops r :: k) .normal (putD d (ev T x) T) H Q := by
  rw [go_plain (plain_ok _ rfl)]; rfl
theorem go_mkfn {f : Nat} {a b : List AX} : GoA tbl (.ops (⟨d, .mkfn f a b, none⟩ :: r) :: k) .normal T H Q ↔ GoA tbl (.ops r :: k) .normal (putD d (.fn f (evs (ev T) a) (evs (ev T) b)) T) H Q := by
  rw [go_plain (plain_ok _ rfl)]; rfl
theorem go_bin {op : BinOp} {x y : AX} : GoA tbl (.ops (⟨d, .bin op x y, none⟩ :: r) :: k) .normal T H Q ↔
    (match bin op (ev T x) (ev T y) with | some v => GoA tbl (.ops r :: k) .normal (putD d v T) H Q | none => False) := by
  rw [go_plain (plain_ok _ rfl)]
  simp only [evalOp]
  cases bin op (ev T x) (ev T y) <;> rfl
theorem go_eqv {neg : Bool} {kk : EqK} {x y : AX} : GoA tbl (.ops (⟨d, .eqv neg kk x y, none⟩ :: r) :: k) .normal T H Q ↔
    (match opEqv neg kk (ev T x) (ev T y) with | some v => GoA tbl (.ops r :: k) .normal (putD d v T) H Q | none => False) := by
  rw [go_plain (plain_ok _ rfl)]
  simp only [evalOp]
  cases opEqv neg kk (ev T x) (ev T y) <;> rfl
theorem go_un {op : UnOp} {x : AX} : GoA tbl (.ops (⟨d, .un op x, none⟩ :: r) :: k) .normal T H Q ↔
    (match unop op (ev T x) with | some v => GoA tbl (.ops r :: k) .normal (putD d v T) H Q | none => False) := by
  rw [go_plain (plain_ok _ rfl)]
  simp only [evalOp]
  cases unop op (ev T x) <;> rfl
theorem go_convI {ik : IntKind} {x : AX} : GoA tbl (.ops (⟨d, .convI ik x, none⟩ :: r) :: k) .normal T H Q ↔
    (match opConvI ik (ev T x) with | some v => GoA tbl (.ops r :: k) .normal (putD d v T) H Q | none => False) := by
  rw [go_plain (plain_ok _ rfl)]
  simp only [evalOp]
  cases opConvI ik (ev T x) <;> rfl
theorem go_mkif {t : Nat} {x : AX} : GoA tbl (.ops (⟨d, .mkif t x, none⟩ :: r) :: k) .normal T H Q ↔
    (match opMkif t (ev T x) with | some v => GoA tbl (.ops r :: k) .normal (putD d v T) H Q | none => False) := by
  rw [go_plain (plain_ok _ rfl)]
  simp only [evalOp]
  cases opMkif t (ev T x) <;> rfl
theorem go_slice {es : Nat} {x : AX} {lo hi top : Option AX} : GoA tbl (.ops (⟨d, .slice es x lo hi top, none⟩ :: r) :: k) .normal T H Q ↔
    (match opSlice es (ev T x) (optE (ev T) lo) (optE (ev T) hi) (optE (ev T) top) with | some v => GoA tbl (.ops r :: k) .normal (putD d v T) H Q | none => False) := by
  rw [go_plain (plain_ok _ rfl)]
  simp only [evalOp]
  cases opSlice es (ev T x) (optE (ev T) lo) (optE (ev T) hi) (optE (ev T) top) <;> rfl
theorem go_slstr {x : AX} {lo hi : Option AX} : GoA tbl (.ops (⟨d, .slstr x lo hi, none⟩ :: r) :: k) .normal T H Q ↔
    (match opSlstr (ev T x) (optE (ev T) lo) (optE (ev T) hi) with | some v => GoA tbl (.ops r :: k) .normal (putD d v T) H Q | none => False) := by
  rw [go_plain (plain_ok _ rfl)]
  simp only [evalOp]
  cases opSlstr (ev T x) (optE (ev T) lo) (optE (ev T) hi) <;> rfl
theorem go_faddr {off : Nat} {x : AX} : GoA tbl (.ops (⟨d, .faddr off x, none⟩ :: r) :: k) .normal T H Q ↔
    (match opFaddr off (ev T x) with | some v => GoA tbl (.ops r :: k) .normal (putD d v T) H Q | none => False) := by
  rw [go_plain (plain_ok _ rfl)]
  simp only [evalOp]
  cases opFaddr off (ev T x) <;> rfl
theorem go_field {off n : Nat} {ag : Bool} {x : AX} : GoA tbl (.ops (⟨d, .field off n ag x, none⟩ :: r) :: k) .normal T H Q ↔
    (match opField off n ag (ev T x) with | some v => GoA tbl (.ops r :: k) .normal (putD d v T) H Q | none => False) := by
  rw [go_plain (plain_ok _ rfl)]
  simp only [evalOp]
  cases opField off n ag (ev T x) <;> rfl
theorem go_iaddrS {es : Nat} {x i : AX} : GoA tbl (.ops (⟨d, .iaddrS es x i, none⟩ :: r) :: k) .normal T H Q ↔
    (match opIaddrS es (ev T x) (ev T i) with | some v => GoA tbl (.ops r :: k) .normal (putD d v T) H Q | none => False) := by
  rw [go_plain (plain_ok _ rfl)]
  simp only [evalOp]
  cases opIaddrS es (ev T x) (ev T i) <;> rfl
theorem go_iaddrA {n es : Nat} {x i : AX} : GoA tbl (.ops (⟨d, .iaddrA n es x i, none⟩ :: r) :: k) .normal T H Q ↔
    (match opIaddrA n es (ev T x) (ev T i) with | some v => GoA tbl (.ops r :: k) .normal (putD d v T) H Q | none => False) := by
  rw [go_plain (plain_ok _ rfl)]
  simp only [evalOp]
  cases opIaddrA n es (ev T x) (ev T i) <;> rfl
theorem go_idxA {len n : Nat} {ag : Bool} {x i : AX} : GoA tbl (.ops (⟨d, .idxA len n ag x i, none⟩ :: r) :: k) .normal T H Q ↔
    (match opIdxA len n ag (ev T x) (ev T i) with | some v => GoA tbl (.ops r :: k) .normal (putD d v T) H Q | none => False) := by
  rw [go_plain (plain_ok _ rfl)]
  simp only [evalOp]
  cases opIdxA len n ag (ev T x) (ev T i) <;> rfl
theorem go_idxS {x i : AX} : GoA tbl (.ops (⟨d, .idxS x i, none⟩ :: r) :: k) .normal T H Q ↔
    (match opIdxS (ev T x) (ev T i) with | some v => GoA tbl (.ops r :: k) .normal (putD d v T) H Q | none => False) := by
  rw [go_plain (plain_ok _ rfl)]
  simp only [evalOp]
  cases opIdxS (ev T x) (ev T i) <;> rfl
theorem go_extract {x : AX} {i : Nat} : GoA tbl (.ops (⟨d, .extract x i, none⟩ :: r) :: k) .normal T H Q ↔
    (match opExtract (ev T x) i with | some v => GoA tbl (.ops r :: k) .normal (putD d v T) H Q | none => False) := by
  rw [go_plain (plain_ok _ rfl)]
  simp only [evalOp]
  cases opExtract (ev T x) i <;> rfl
theorem go_len {st : Bool} {x : AX} : GoA tbl (.ops (⟨d, .len st x, none⟩ :: r) :: k) .normal T H Q ↔
    (match opLen st (ev T x) with | some v => GoA tbl (.ops r :: k) .normal (putD d v T) H Q | none => False) := by
  rw [go_plain (plain_ok _ rfl)]
  simp only [evalOp]
  cases opLen st (ev T x) <;> rfl
theorem go_mx {xs : List AX} : GoA tbl (.ops (⟨d, .mx xs, none⟩ :: r) :: k) .normal T H Q ↔
    (match opFold maxI (evs (ev T) xs) with | some v => GoA tbl (.ops r :: k) .normal (putD d v T) H Q | none => False) := by
  rw [go_plain (plain_ok _ rfl)]
  simp only [evalOp]
  cases opFold maxI (evs (ev T) xs) <;> rfl
theorem go_mn {xs : List AX} : GoA tbl (.ops (⟨d, .mn xs, none⟩ :: r) :: k) .normal T H Q ↔
    (match opFold minI (evs (ev T) xs) with | some v => GoA tbl (.ops r :: k) .normal (putD d v T) H Q | none => False) := by
  rw [go_plain (plain_ok _ rfl)]
  simp only [evalOp]
  cases opFold minI (evs (ev T) xs) <;> rfl
theorem go_pick {c x y : AX} : GoA tbl (.ops (⟨d, .pick c x y, none⟩ :: r) :: k) .normal T H Q ↔
    (match opPick (ev T c) (ev T x) (ev T y) H with | some (v, H') => GoA tbl (.ops r :: k) .normal (putD d v T) H' Q | none => False) := by
  rw [go_plain (plain_ok _ rfl)]; rfl
theorem go_alloc {cs : List AV} : GoA tbl (.ops (⟨d, .alloc cs, none⟩ :: r) :: k) .normal T H Q ↔
    (match some (AV.ptr H.nx 0, lay cs H) with | some (v, H') => GoA tbl (.ops r :: k) .normal (putD d v T) H' Q | none => False) := by
  rw [go_plain (plain_ok _ rfl)]; rfl
theorem go_box {x : AX} : GoA tbl (.ops (⟨d, .box x, none⟩ :: r) :: k) .normal T H Q ↔
    (match opBox (ev T x) H with | some (v, H') => GoA tbl (.ops r :: k) .normal (putD d v T) H' Q | none => False) := by
  rw [go_plain (plain_ok _ rfl)]; rfl
theorem go_build {z : List AV} {ps : List (Nat × Nat × AX)} : GoA tbl (.ops (⟨d, .build z ps, none⟩ :: r) :: k) .normal T H Q ↔
    (match opBuild z (parts (ev T) ps) H with | some (v, H') => GoA tbl (.ops r :: k) .normal (putD d v T) H' Q | none => False) := by
  rw [go_plain (plain_ok _ rfl)]; rfl
theorem go_bslice {es n : Nat} {z : List AV} {ps : List (Nat × Nat × AX)} : GoA tbl (.ops (⟨d, .bslice es n z ps, none⟩ :: r) :: k) .normal T H Q ↔
    (match opBslice es n z (parts (ev T) ps) H with | some (v, H') => GoA tbl (.ops r :: k) .normal (putD d v T) H' Q | none => False) := by
  rw [go_plain (plain_ok _ rfl)]; rfl
theorem go_load {x : AX} {ag : Bool} {n : Nat} : GoA tbl (.ops (⟨d, .load x ag n, none⟩ :: r) :: k) .normal T H Q ↔
    (match opLoad (ev T x) ag n H with | some (v, H') => GoA tbl (.ops r :: k) .normal (putD d v T) H' Q | none => False) := by
  rw [go_plain (plain_ok _ rfl)]; rfl
theorem go_store {x v : AX} {n : Nat} : GoA tbl (.ops (⟨d, .store x v n, none⟩ :: r) :: k) .normal T H Q ↔
    (match opStore (ev T x) (ev T v) n H with | some (v, H') => GoA tbl (.ops r :: k) .normal (putD d v T) H' Q | none => False) := by
  rw [go_plain (plain_ok _ rfl)]; rfl
theorem go_nilchk {x : AX} : GoA tbl (.ops (⟨d, .nilchk x, none⟩ :: r) :: k) .normal T H Q ↔
    (match opNilchk (ev T x) H with | some (v, H') => GoA tbl (.ops r :: k) .normal (putD d v T) H' Q | none => False) := by
  rw [go_plain (plain_ok _ rfl)]; rfl
theorem go_mkmap {kl : Nat} : GoA tbl (.ops (⟨d, .mkmap kl, none⟩ :: r) :: k) .normal T H Q ↔
    (match some (AV.map H.nx, H.push (.map kl [] 0)) with | some (v, H') => GoA tbl (.ops r :: k) .normal (putD d v T) H' Q | none => False) := by
  rw [go_plain (plain_ok _ rfl)]; rfl
theorem go_mkslice {es bytes : Nat} {z : List AV} {l c : AX} : GoA tbl (.ops (⟨d, .mkslice es bytes z l c, none⟩ :: r) :: k) .normal T H Q ↔
    (match opMkslice es bytes z (ev T l) (ev T c) H with | some (v, H') => GoA tbl (.ops r :: k) .normal (putD d v T) H' Q | none => False) := by
  rw [go_plain (plain_ok _ rfl)]; rfl
theorem go_slarr {n es : Nat} {x : AX} {lo hi top : Option AX} : GoA tbl (.ops (⟨d, .slarr n es x lo hi top, none⟩ :: r) :: k) .normal T H Q ↔
    (match opSlarr n es (ev T x) (optE (ev T) lo) (optE (ev T) hi) (optE (ev T) top) H with | some (v, H') => GoA tbl (.ops r :: k) .normal (putD d v T) H' Q | none => False) := by
  rw [go_plain (plain_ok _ rfl)]; rfl
theorem go_lookup {kl : Nat} {z : AV} {ok : Bool} {mm kk : AX} : GoA tbl (.ops (⟨d, .lookup kl z ok mm kk, none⟩ :: r) :: k) .normal T H Q ↔
    (match opLookup kl z ok (ev T mm) (ev T kk) H with | some (v, H') => GoA tbl (.ops r :: k) .normal (putD d v T) H' Q | none => False) := by
  rw [go_plain (plain_ok _ rfl)]; rfl
theorem go_mapset {kl : Nat} {mm kk v : AX} : GoA tbl (.ops (⟨d, .mapset kl mm kk v, none⟩ :: r) :: k) .normal T H Q ↔
    (match opMapset kl (ev T mm) (ev T kk) (ev T v) H with | some (v, H') => GoA tbl (.ops r :: k) .normal (putD d v T) H' Q | none => False) := by
  rw [go_plain (plain_ok _ rfl)]; rfl
theorem go_append {es bytes : Nat} {sl x : AX} : GoA tbl (.ops (⟨d, .append es bytes sl x, none⟩ :: r) :: k) .normal T H Q ↔
    (match appendOp es bytes (ev T sl) (ev T x) H with | some (v, H') => GoA tbl (.ops r :: k) .normal (putD d v T) H' Q | none => False) := by
  rw [go_plain (plain_ok _ rfl)]; rfl
theorem go_copy {es : Nat} {dd sl : AX} : GoA tbl (.ops (⟨d, .copy es dd sl, none⟩ :: r) :: k) .normal T H Q ↔
    (match opCopy es (ev T dd) (ev T sl) H with | some (v, H') => GoA tbl (.ops r :: k) .normal (putD d v T) H' Q | none => False) := by
  rw [go_plain (plain_ok _ rfl)]; rfl
theorem go_clear {z : List AV} {x : AX} : GoA tbl (.ops (⟨d, .clear z x, none⟩ :: r) :: k) .normal T H Q ↔
    (match opClear z (ev T x) H with | some (v, H') => GoA tbl (.ops r :: k) .normal (putD d v T) H' Q | none => False) := by
  rw [go_plain (plain_ok _ rfl)]; rfl
end

theorem ev_c (T : Fr) (v : AV) : ev T (.c v) = v := rfl
theorem put_none (v : AV) (T : Fr) : putD none v T = T := rfl
theorem evs_nil (e : AX → AV) : evs e [] = [] := rfl
theorem evs_cons (e : AX → AV) (x : AX) (l : List AX) : evs e (x :: l) = e x :: evs e l := rfl
theorem optE_none (e : AX → AV) : optE e none = none := rfl
theorem optE_some (e : AX → AV) (x : AX) : optE e (some x) = some (e x) := rfl
theorem parts_nil (e : AX → AV) : parts e [] = [] := rfl
theorem parts_cons (e : AX → AV) (a b : Nat) (x : AX) (l : List (Nat × Nat × AX)) : parts e ((a, b, x) :: l) = (a, b, e x) :: parts e l := rfl
theorem asB_bool (b : Bool) : asB (.bool b) = some b := rfl
theorem asW_bool (w b : Bool) : asW w (.bool b) = some b := rfl
theorem asW_tupT : asW true (.tup []) = some false := rfl
theorem asW_tupF : asW false (.tup []) = some true := rfl
theorem frameOf_nil (i : Nat) (T : Fr) : frameOf i [] T = T := rfl
theorem frameOf_cons (i : Nat) (v : AV) (l : List AV) (T : Fr) : frameOf i (v :: l) T = frameOf (i + 1) l (sN T i v) := rfl

/-! whole numbers -/
def InR (n : Int) : Prop := -9223372036854775808 ≤ n ∧ n ≤ 9223372036854775807
theorem wrapK_in {n : Int} (h : InR n) : wrapK .i64 n = n := by
  unfold wrapK
  rw [if_pos]
  simp only [Bool.and_eq_true, intLe_iff, kMin, kMax]; exact h
theorem bin_add {a b : Int} (h : InR (a + b)) : bin .add (.int .i64 a) (.int .i64 b) = some (.int .i64 (a + b)) := by
  simp [bin, binI, ikEq, wrapK_in h]
theorem bin_sub {a b : Int} (h : InR (a - b)) : bin .sub (.int .i64 a) (.int .i64 b) = some (.int .i64 (a - b)) := by
  simp [bin, binI, ikEq, wrapK_in h]
theorem bin_mul {a b : Int} (h : InR (a * b)) : bin .mul (.int .i64 a) (.int .i64 b) = some (.int .i64 (a * b)) := by
  simp [bin, binI, ikEq, wrapK_in h]
theorem bin_lss (a b : Int) : bin .lss (.int .i64 a) (.int .i64 b) = some (.bool (decide (a < b))) := by
  simp [bin, binI, ikEq, not_intLe]
theorem bin_leq (a b : Int) : bin .leq (.int .i64 a) (.int .i64 b) = some (.bool (decide (a ≤ b))) := by
  simp [bin, binI, ikEq, intLe_dec]
theorem bin_gtr (a b : Int) : bin .gtr (.int .i64 a) (.int .i64 b) = some (.bool (decide (b < a))) := by
  simp [bin, binI, ikEq, not_intLe]
theorem bin_geq (a b : Int) : bin .geq (.int .i64 a) (.int .i64 b) = some (.bool (decide (b ≤ a))) := by
  simp [bin, binI, ikEq, intLe_dec]
theorem bin_eql (a b : Int) : bin .eql (.int .i64 a) (.int .i64 b) = some (.bool (decide (a = b))) := by
  simp [bin, binI, ikEq, intEq_dec]; rfl
theorem bin_neq (a b : Int) : bin .neq (.int .i64 a) (.int .i64 b) = some (.bool (decide (a ≠ b))) := by
  simp [bin, binI, ikEq, intEq_dec]; rfl
theorem bin_rem {a b : Int} (h : b ≠ 0) : bin .rem (.int .i64 a) (.int .i64 b) = some (.int .i64 (a.tmod b)) := by
  have : intEq b 0 = false := by
    cases e : intEq b 0 with
    | false => rfl
    | true => exact absurd (intEq_eq e) h
  simp [bin, binI, ikEq, this]
theorem bin_quo {a b : Int} (h : b ≠ 0) (hr : InR (a.tdiv b)) : bin .quo (.int .i64 a) (.int .i64 b) = some (.int .i64 (a.tdiv b)) := by
  have : intEq b 0 = false := by
    cases e : intEq b 0 with
    | false => rfl
    | true => exact absurd (intEq_eq e) h
  simp [bin, binI, ikEq, this, wrapK_in hr]
theorem convI_in {k : IntKind} {n : Int} (h : InR n) : opConvI .i64 (.int k n) = some (.int .i64 n) := by
  simp [opConvI, asI, wrapK_in h]
theorem asN_of {k : IntKind} {n : Int} (h : 0 ≤ n) : asN (.int k n) = some n.toNat := by
  cases n with
  | ofNat n => rfl
  | negSucc n => exact absurd h (by omega)
theorem unop_not (b : Bool) : unop .not (.bool b) = some (.bool (!b)) := rfl

/-! heaps -/
theorem get_put (H : AHeap) (i j : Nat) (o : AObj) : (H.put i o).get j = if i = j then some o else H.get j := by
  split
  · rename_i h; subst h; exact get_put_same ..
  · rename_i h; exact get_put_ne _ _ _ _ h
theorem get_push (H : AHeap) (j : Nat) (o : AObj) : (H.push o).get j = if j = H.nx then some o else H.get j := by
  split
  · rename_i h; subst h; exact get_push_same ..
  · rename_i h; exact get_push_ne _ _ _ h
theorem load_eq {H : AHeap} {i off n : Nat} {cs l : List AV} {st : BSt} (h : H.get i = some (.cells cs st)) (hl : rangeOf off n cs = some l) : H.load i off n = some l := by
  simp only [AHeap.load, h, hl]
theorem store_eq {H : AHeap} {i off : Nat} {vs cs l : List AV} (h : H.get i = some (.cells cs .own)) (hl : write off vs cs = some l) : H.store i off vs = some (H.put i (.cells l .own)) := by
  simp only [AHeap.store, h, hl]

theorem dropN_some : ∀ (n : Nat) (l : List AV), n ≤ l.length → dropN n l = some (l.drop n) := by
  intro n
  induction n with
  | zero => intro l _; rfl
  | succ n ih => intro l h; cases l with
    | nil => simp at h
    | cons v l => simp only [dropN]; rw [ih l (by simpa using h)]; rfl
theorem takeN_some : ∀ (n : Nat) (l : List AV), n ≤ l.length → takeN n l = some (l.take n) := by
  intro n
  induction n with
  | zero => intro l _; cases l <;> rfl
  | succ n ih => intro l h; cases l with
    | nil => simp at h
    | cons v l => simp only [takeN]; rw [ih l (by simpa using h)]; rfl
theorem rangeOf_some {off n : Nat} {cs : List AV} (h : off + n ≤ cs.length) : rangeOf off n cs = some ((cs.drop off).take n) := by
  simp only [rangeOf]
  rw [dropN_some off cs (by omega)]
  exact takeN_some _ _ (by simp; omega)
theorem overlay_some : ∀ (vs cs : List AV), vs.length ≤ cs.length → overlay vs cs = some (vs ++ cs.drop vs.length) := by
  intro vs
  induction vs with
  | nil => intro cs _; simp [overlay]
  | cons v vs ih => intro cs h; cases cs with
    | nil => simp at h
    | cons c cs => simp only [overlay]; rw [ih cs (by simpa using h)]; simp
theorem write_some : ∀ (off : Nat) (vs cs : List AV), off + vs.length ≤ cs.length → write off vs cs = some (cs.take off ++ vs ++ cs.drop (off + vs.length)) := by
  intro off
  induction off with
  | zero => intro vs cs h; simp only [write]; rw [overlay_some vs cs (by omega)]; simp
  | succ off ih => intro vs cs h; cases cs with
    | nil => simp at h
    | cons c cs => simp only [write]; rw [ih vs cs (by simp at h; omega)]; simp [Nat.add_right_comm off 1]
theorem rangeOf_one {off : Nat} {cs : List AV} {v : AV} (h : cs[off]? = some v) : rangeOf off 1 cs = some [v] := by
  have hlt := (List.getElem?_eq_some_iff.1 h).1
  rw [rangeOf_some (by omega), List.drop_eq_getElem_cons hlt]
  simp [(List.getElem?_eq_some_iff.1 h).2]
theorem write_one {off : Nat} {cs : List AV} {v : AV} (h : off < cs.length) : write off [v] cs = some (cs.set off v) := by
  rw [write_some _ _ _ (by simpa using (show off + 1 ≤ cs.length by omega))]
  congr 1
  rw [List.set_eq_take_append_cons_drop, if_pos h]
  simp

theorem allCells_iff {l : List AV} : allCells l = true ↔ ∀ v, v ∈ l → isCell v = true := by
  induction l with
  | nil => simp [allCells]
  | cons v l ih => simp [allCells, ih]

end Go.AM
/- Ranges over functions, carried out by rewriting. -/
namespace Go.AM
open Go
section
variable {tbl : Nat → Option AFn} {k : List KI} {T : Fr} {H : AHeap} {Q : AExit → Fr → AHeap → Prop}

theorem go_rangef_of {f : AX} {ps : List (List Bool)} {assign body : ACode} {g : Nat} {first cap : List AV} (hx : ev T f = .fn g first cap)
    (h : CallA tbl g (first ++ ([.yld H.nx] ++ cap)) (H.push (.loop { st := .ready, pend := none, T := T, ps := ps, assign := assign, body := body }))
      fun _ H' => ∃ L, H'.get H.nx = some (.loop L) ∧ L.st ≠ .busy ∧ GoA tbl k (L.pend.getD .normal) T (H'.put H.nx (.loop { L with st := .exhausted })) Q) :
    GoA tbl (.code (.rangef f ps assign body) :: k) .normal T H Q := by
  obtain ⟨n, ⟨v, H'⟩, h1, L, h2, h3, h4⟩ := h
  refine GoA.step (n := n) (e' := L.pend.getD .normal) (T' := T) (H' := H'.put H.nx (.loop { L with st := .exhausted })) ?_ h4
  simp only [doK, code, rangeC, hx, h1, rangeEnd]
  simp only at h2
  rw [h2]
  cases hst : L.st with
  | busy => exact absurd hst h3
  | _ => cases hp : L.pend <;> simp [hst, hp]

theorem yld_of {i : Nat} {args : List AV} {QQ : AV → AHeap → Prop} {L : ALoop} {T1 : Fr} (hL : H.get i = some (.loop L)) (hT : setPs L.ps args L.T = some T1)
    (h : GoA tbl [.code L.assign] .normal T1 H fun e T2 H2 => e = .normal ∧ ∃ L2, H2.get i = some (.loop L2) ∧ L2.st = .ready ∧
      GoA tbl [.code L.body] .normal T2 (H2.put i (.loop { L2 with st := .busy })) fun e T3 H3 => ∃ L3, H3.get i = some (.loop L3) ∧
        (e = .normal → QQ (.bool true) (H3.put i (.loop { L3 with st := .ready, pend := none }))) ∧ (e ≠ .normal → QQ (.bool false) (H3.put i (.loop { L3 with st := .done, pend := some e })))) :
    YldA tbl i args H QQ := by
  obtain ⟨n, ⟨e, T2, H2⟩, h1, rfl, L2, h2, h3, m, ⟨e3, T3, H3⟩, h4, L3, h5, h6, h7⟩ := h
  simp only [contK, doK] at h1 h4
  split at h1 <;> cases h1
  rename_i ha
  split at h4 <;> cases h4
  rename_i hb
  have ha' := (runR_le tbl (Nat.le_max_left n m)).code ha
  have hb' := (runR_le tbl (Nat.le_max_right n m)).code hb
  simp only at h2 h5
  cases e3 with
  | normal =>
    refine ⟨max n m + 1, (.bool true, H3.put i (.loop { L3 with st := .ready, pend := none })), ?_, h6 rfl⟩
    show yldF (runR tbl (max n m)) i args H = _
    simp only [yldF, hL, hT, ha', h2, h3, hb', h5]
  | ret =>
    refine ⟨max n m + 1, (.bool false, H3.put i (.loop { L3 with st := .done, pend := some .ret })), ?_, h7 (by simp)⟩
    show yldF (runR tbl (max n m)) i args H = _
    simp only [yldF, hL, hT, ha', h2, h3, hb', h5]
  | exit j =>
    refine ⟨max n m + 1, (.bool false, H3.put i (.loop { L3 with st := .done, pend := some (.exit j) })), ?_, h7 (by simp)⟩
    show yldF (runR tbl (max n m)) i args H = _
    simp only [yldF, hL, hT, ha', h2, h3, hb', h5]
end
end Go.AM
/- Frozen parts: how a state with frozen values stands to one without. -/
namespace Go.AM
open Go

/-! The relation of values. b: which number stands for which; A: the frozen blocks; G: the memory in which these lie -/
mutual
inductive FV (b : Nat → Option Nat) (A : Nat → Prop) (G : AHeap) : AV → AV → Prop where
  | undef : FV b A G .undef .undef
  | bool (x : Bool) : FV b A G (.bool x) (.bool x)
  | int (k : IntKind) (n : Int) : FV b A G (.int k n) (.int k n)
  | str (s : ByteArray) : FV b A G (.str s) (.str s)
  | nilptr : FV b A G .nilptr .nilptr
  | ptr (i off j : Nat) (h : b i = some j) : FV b A G (.ptr i off) (.ptr j off)
  | nilsl : FV b A G .nilsl .nilsl
  | sl (i off len cap es : Nat) (ex : Bool) (j : Nat) (h : b i = some j) : FV b A G (.sl i off len cap es ex) (.sl j off len cap es ex)
  | nilmap : FV b A G .nilmap .nilmap
  | map (i j : Nat) (h : b i = some j) : FV b A G (.map i) (.map j)
  | fn (f : Nat) (x y x' y' : List AV) (h1 : FVs b A G x x') (h2 : FVs b A G y y') : FV b A G (.fn f x y) (.fn f x' y')
  | yld (i j : Nat) (h : b i = some j) : FV b A G (.yld i) (.yld j)
  | nilfn : FV b A G .nilfn .nilfn
  | ifc (t : Nat) (v w : AV) (h : FV b A G v w) : FV b A G (.ifc t v) (.ifc t w)
  | nilif : FV b A G .nilif .nilif
  | agg (x y : List AV) (h : FVs b A G x y) : FV b A G (.agg x) (.agg y)
  | tup (x y : List AV) (h : FVs b A G x y) : FV b A G (.tup x) (.tup y)
  | lst0 (es : Nat) : FV b A G (.lst es 0 []) .nilsl
  | lstN (es j off cap : Nat) (ex : Bool) (l : List AV) (st : BSt) (hA : A j) (hG : G.get j = some (.cells l st)) (hr : rangeOf off 0 l = some []) : FV b A G (.lst es 0 [.nilfn]) (.sl j off 0 cap es ex)
  | lst (es n : Nat) (cs : List AV) (j off cap : Nat) (ex : Bool) (l : List AV) (st : BSt) (l' : List AV) (hA : A j) (hG : G.get j = some (.cells l st)) (hr : rangeOf off (n * es) l = some l') (hn : n ≤ cap)
      (h : FVs b A G cs l') : FV b A G (.lst es n cs) (.sl j off n cap es ex)
  | fp (off : Nat) (cs : List AV) (j base n : Nat) (l : List AV) (st : BSt) (l' : List AV) (hA : A j) (hG : G.get j = some (.cells l st)) (hr : rangeOf base n l = some l')
      (h : FVs b A G cs l') : FV b A G (.fp off cs) (.ptr j (base + off))
inductive FVs (b : Nat → Option Nat) (A : Nat → Prop) (G : AHeap) : List AV → List AV → Prop where
  | nil : FVs b A G [] []
  | cons (v w : AV) (x y : List AV) (h : FV b A G v w) (hs : FVs b A G x y) : FVs b A G (v :: x) (w :: y)
end

abbrev NMap := Nat → Option Nat
/-- more numbers, more frozen blocks; what was frozen stays as it is -/
structure Mo (b : NMap) (A : Nat → Prop) (G : AHeap) (b2 : NMap) (A2 : Nat → Prop) (G2 : AHeap) : Prop where
  ext : ∀ i j, b i = some j → b2 i = some j
  sub : ∀ j, A j → A2 j
  keep : ∀ j, A j → G2.get j = G.get j
theorem Mo.refl (b : NMap) (A : Nat → Prop) (G : AHeap) : Mo b A G b A G := ⟨fun _ _ h => h, fun _ h => h, fun _ _ => rfl⟩
theorem Mo.trans {b b2 b3 : NMap} {A A2 A3 : Nat → Prop} {G G2 G3 : AHeap} (h : Mo b A G b2 A2 G2) (k : Mo b2 A2 G2 b3 A3 G3) : Mo b A G b3 A3 G3 :=
  ⟨fun i j e => k.ext i j (h.ext i j e), fun j e => k.sub j (h.sub j e), fun j e => (k.keep j (h.sub j e)).trans (h.keep j e)⟩

section
variable {b b2 : NMap} {A A2 : Nat → Prop} {G G2 : AHeap}
mutual
theorem FV.mono (m : Mo b A G b2 A2 G2) : ∀ {v w : AV}, FV b A G v w → FV b2 A2 G2 v w
  | _, _, .undef => .undef
  | _, _, .bool x => .bool x
  | _, _, .int k n => .int k n
  | _, _, .str s => .str s
  | _, _, .nilptr => .nilptr
  | _, _, .ptr i off j h => .ptr i off j (m.ext _ _ h)
  | _, _, .nilsl => .nilsl
  | _, _, .sl i off len cap es ex j h => .sl i off len cap es ex j (m.ext _ _ h)
  | _, _, .nilmap => .nilmap
  | _, _, .map i j h => .map i j (m.ext _ _ h)
  | _, _, .fn f x y x' y' h1 h2 => .fn f x y x' y' (FVs.mono m h1) (FVs.mono m h2)
  | _, _, .yld i j h => .yld i j (m.ext _ _ h)
  | _, _, .nilfn => .nilfn
  | _, _, .ifc t v w h => .ifc t v w (FV.mono m h)
  | _, _, .nilif => .nilif
  | _, _, .agg x y h => .agg x y (FVs.mono m h)
  | _, _, .tup x y h => .tup x y (FVs.mono m h)
  | _, _, .lst0 es => .lst0 es
  | _, _, .lstN es j off cap ex l st hA hG hr => .lstN es j off cap ex l st (m.sub _ hA) ((m.keep _ hA).trans hG) hr
  | _, _, .lst es n cs j off cap ex l st l' hA hG hr hn h => .lst es n cs j off cap ex l st l' (m.sub _ hA) ((m.keep _ hA).trans hG) hr hn (FVs.mono m h)
  | _, _, .fp off cs j base n l st l' hA hG hr h => .fp off cs j base n l st l' (m.sub _ hA) ((m.keep _ hA).trans hG) hr (FVs.mono m h)
theorem FVs.mono (m : Mo b A G b2 A2 G2) : ∀ {v w : List AV}, FVs b A G v w → FVs b2 A2 G2 v w
  | _, _, .nil => .nil
  | _, _, .cons v w x y h hs => .cons v w x y (FV.mono m h) (FVs.mono m hs)
end

theorem FVs.length : ∀ {x y : List AV}, FVs b A G x y → y.length = x.length
  | _, _, .nil => rfl
  | _, _, .cons v w x y h hs => by simp [hs.length]
theorem FVs.append : ∀ {x y x' y' : List AV}, FVs b A G x y → FVs b A G x' y' → FVs b A G (x ++ x') (y ++ y')
  | _, _, _, _, .nil, k => k
  | _, _, _, _, .cons v w x y h hs, k => .cons v w _ _ h (hs.append k)
theorem FVs.take : ∀ {x y : List AV} (n : Nat), FVs b A G x y → FVs b A G (x.take n) (y.take n)
  | _, _, 0, _ => by simpa using FVs.nil
  | _, _, _ + 1, .nil => by simpa using FVs.nil
  | _, _, n + 1, .cons v w x y h hs => by simpa using FVs.cons v w _ _ h (hs.take n)
theorem FVs.drop : ∀ {x y : List AV} (n : Nat), FVs b A G x y → FVs b A G (x.drop n) (y.drop n)
  | _, _, 0, h => by simpa using h
  | _, _, _ + 1, .nil => by simpa using FVs.nil
  | _, _, n + 1, .cons v w x y h hs => by simpa using hs.drop n
theorem FVs.get : ∀ {x y : List AV}, FVs b A G x y → ∀ (k : Nat) (v : AV), x[k]? = some v → ∃ w, y[k]? = some w ∧ FV b A G v w
  | _, _, .nil, _, _, e => by simp at e
  | _, _, .cons v w x y h hs, k, u, e => by
    cases k with
    | zero => simp at e; subst e; exact ⟨w, rfl, h⟩
    | succ k => simp at e; obtain ⟨w, h1, h2⟩ := hs.get k u e; exact ⟨w, by simpa using h1, h2⟩

/-! cells -/
theorem FV.isCell {v w : AV} (h : FV b A G v w) : isCell w = isCell v := by cases h <;> rfl
theorem FVs.allCells : ∀ {x y : List AV}, FVs b A G x y → AM.allCells y = AM.allCells x
  | _, _, .nil => rfl
  | _, _, .cons v w x y h hs => by simp only [AM.allCells, h.isCell, hs.allCells]
theorem FV.cellsOf {v w : AV} (h : FV b A G v w) {cs : List AV} (e : cellsOf v = some cs) : ∃ cs', AM.cellsOf w = some cs' ∧ FVs b A G cs cs' := by
  cases h
  case undef => cases e
  case agg => cases e; exact ⟨_, rfl, by assumption⟩
  case tup => cases e
  all_goals
    cases e
    refine ⟨_, rfl, .cons _ _ _ _ ?_ .nil⟩
    constructor <;> assumption

theorem takeN_r : ∀ {n : Nat} {x y l : List AV}, FVs b A G x y → takeN n x = some l → ∃ l', takeN n y = some l' ∧ FVs b A G l l'
  | 0, x, y, l, h, e => by
    have : l = [] := by cases x <;> (simp [takeN] at e; first | exact e | exact e.symm)
    subst this
    exact ⟨[], by cases y <;> rfl, .nil⟩
  | n + 1, _, _, l, .nil, e => by simp [takeN] at e
  | n + 1, _, _, l, .cons v w x y h hs, e => by
    simp only [takeN] at e ⊢
    split at e <;> cases e
    rename_i r hr
    obtain ⟨r', h1, h2⟩ := takeN_r hs hr
    exact ⟨_, by rw [h1], .cons _ _ _ _ h h2⟩
theorem dropN_r : ∀ {n : Nat} {x y l : List AV}, FVs b A G x y → dropN n x = some l → ∃ l', dropN n y = some l' ∧ FVs b A G l l'
  | 0, x, y, l, h, e => by
    have : l = x := by cases x <;> (simp [dropN] at e; first | exact e | exact e.symm)
    subst this
    exact ⟨y, by cases y <;> rfl, h⟩
  | n + 1, _, _, l, .nil, e => by simp [dropN] at e
  | n + 1, _, _, l, .cons v w x y h hs, e => by
    simp only [dropN] at e ⊢
    exact dropN_r hs e
theorem rangeOf_r {off n : Nat} {x y l : List AV} (h : FVs b A G x y) (e : rangeOf off n x = some l) : ∃ l', rangeOf off n y = some l' ∧ FVs b A G l l' := by
  unfold rangeOf at e ⊢
  split at e <;> first | (cases e; done) | skip
  rename_i r hr
  obtain ⟨r', h1, h2⟩ := dropN_r h hr
  obtain ⟨l', h3, h4⟩ := takeN_r h2 e
  exact ⟨l', by rw [h1]; exact h3, h4⟩
theorem overlay_r : ∀ {v v' x x' l : List AV}, FVs b A G v v' → FVs b A G x x' → overlay v x = some l → ∃ l', overlay v' x' = some l' ∧ FVs b A G l l'
  | _, _, _, _, l, .nil, hx, e => by
    simp [overlay] at e
    subst e
    exact ⟨_, rfl, hx⟩
  | _, _, _, _, l, .cons v w r r' h hs, .nil, e => by simp [overlay] at e
  | _, _, _, _, l, .cons v w r r' h hs, .cons v2 w2 x y h2 hs2, e => by
    simp only [overlay] at e ⊢
    split at e <;> cases e
    rename_i q hq
    obtain ⟨q', h3, h4⟩ := overlay_r hs hs2 hq
    exact ⟨_, by rw [h3], .cons _ _ _ _ h h4⟩
theorem write_r : ∀ {n : Nat} {v v' x x' l : List AV}, FVs b A G v v' → FVs b A G x x' → write n v x = some l → ∃ l', write n v' x' = some l' ∧ FVs b A G l l'
  | 0, _, _, _, _, l, hv, hx, e => by
    simp only [write] at e ⊢
    exact overlay_r hv hx e
  | n + 1, _, _, _, _, l, hv, .nil, e => by simp [write] at e
  | n + 1, _, _, _, _, l, hv, .cons v2 w2 x y h2 hs2, e => by
    simp only [write] at e ⊢
    split at e <;> cases e
    rename_i q hq
    obtain ⟨q', h3, h4⟩ := write_r hv hs2 hq
    exact ⟨_, by rw [h3], .cons _ _ _ _ h2 h4⟩
theorem mkVal_r {ag : Bool} {x y : List AV} (h : FVs b A G x y) {v : AV} (e : mkVal ag x = some v) : ∃ w, mkVal ag y = some w ∧ FV b A G v w := by
  unfold mkVal at e ⊢
  cases ag with
  | true => simp only [if_true] at e ⊢; cases e; exact ⟨_, rfl, .agg _ _ h⟩
  | false =>
    simp only [Bool.false_eq_true, if_false] at e ⊢
    cases h with
    | nil => cases e
    | cons v w x y h hs =>
      cases hs with
      | nil => cases e; exact ⟨w, rfl, h⟩
      | cons => cases e
inductive FPs (b : Nat → Option Nat) (A : Nat → Prop) (G : AHeap) : List (Nat × Nat × AV) → List (Nat × Nat × AV) → Prop where
  | nil : FPs b A G [] []
  | cons (off n : Nat) (v w : AV) (r r' : List (Nat × Nat × AV)) (h : FV b A G v w) (hs : FPs b A G r r') : FPs b A G ((off, n, v) :: r) ((off, n, w) :: r')
theorem fill_r : ∀ {ps ps' : List (Nat × Nat × AV)} {z z' l : List AV}, FVs b A G z z' → FPs b A G ps ps' → fill z ps = some l → ∃ l', fill z' ps' = some l' ∧ FVs b A G l l' := by
  intro ps
  induction ps with
  | nil =>
    intro ps' z z' l hz hp e
    cases hp
    simp [fill] at e
    subst e
    exact ⟨z', rfl, hz⟩
  | cons p ps ih =>
    intro ps' z z' l hz hp e
    cases hp with
    | cons off n v w r r' h3 hs =>
      simp only [fill] at e ⊢
      split at e <;> first | (cases e; done) | skip
      rename_i vs hvs
      obtain ⟨vs', k1, k2⟩ := h3.cellsOf hvs
      split at e <;> first | (cases e; done) | skip
      rename_i hl
      split at e <;> first | (cases e; done) | skip
      rename_i z2 hz2
      obtain ⟨z2', k3, k4⟩ := write_r k2 hz hz2
      obtain ⟨l', k5, k6⟩ := ih k4 hs e
      refine ⟨l', ?_, k6⟩
      rw [k1]
      simp only [k2.length, hl, k3, if_true, k5]
end

/-! closed values stand for themselves -/
mutual
def closedV : AV → Bool
  | .undef | .bool _ | .int _ _ | .str _ | .nilptr | .nilsl | .nilmap | .nilfn | .nilif => true
  | .fn _ x y => closedVs x && closedVs y
  | .ifc _ v => closedV v
  | .agg x => closedVs x
  | .tup x => closedVs x
  | _ => false
def closedVs : List AV → Bool
  | [] => true
  | v :: r => closedV v && closedVs r
end
section
variable {b : NMap} {A : Nat → Prop} {G : AHeap}
mutual
theorem FV.closed : ∀ {v : AV}, closedV v = true → FV b A G v v
  | .undef, _ => .undef
  | .bool x, _ => .bool x
  | .int k n, _ => .int k n
  | .str s, _ => .str s
  | .nilptr, _ => .nilptr
  | .nilsl, _ => .nilsl
  | .nilmap, _ => .nilmap
  | .nilfn, _ => .nilfn
  | .nilif, _ => .nilif
  | .fn f x y, h => by simp only [closedV, Bool.and_eq_true] at h; exact .fn _ _ _ _ _ (FVs.closed h.1) (FVs.closed h.2)
  | .ifc t v, h => by simp only [closedV] at h; exact .ifc _ _ _ (FV.closed h)
  | .agg x, h => by simp only [closedV] at h; exact .agg _ _ (FVs.closed h)
  | .tup x, h => by simp only [closedV] at h; exact .tup _ _ (FVs.closed h)
  | .ptr .., h => by simp [closedV] at h
  | .sl .., h => by simp [closedV] at h
  | .map .., h => by simp [closedV] at h
  | .yld .., h => by simp [closedV] at h
  | .lst .., h => by simp [closedV] at h
  | .fp .., h => by simp [closedV] at h
theorem FVs.closed : ∀ {v : List AV}, closedVs v = true → FVs b A G v v
  | [], _ => .nil
  | v :: r, h => by simp only [closedVs, Bool.and_eq_true] at h; exact .cons _ _ _ _ (FV.closed h.1) (FVs.closed h.2)
end
mutual
/-- and for nothing else -/
theorem FV.closed_eq : ∀ {v w : AV}, FV b A G v w → closedV v = true → w = v
  | _, _, .undef, _ => rfl
  | _, _, .bool x, _ => rfl
  | _, _, .int k n, _ => rfl
  | _, _, .str s, _ => rfl
  | _, _, .nilptr, _ => rfl
  | _, _, .nilsl, _ => rfl
  | _, _, .nilmap, _ => rfl
  | _, _, .nilfn, _ => rfl
  | _, _, .nilif, _ => rfl
  | _, _, .ptr .., h => by simp [closedV] at h
  | _, _, .sl .., h => by simp [closedV] at h
  | _, _, .map .., h => by simp [closedV] at h
  | _, _, .yld .., h => by simp [closedV] at h
  | _, _, .lst .., h => by simp [closedV] at h
  | _, _, .lst0 .., h => by simp [closedV] at h
  | _, _, .lstN .., h => by simp [closedV] at h
  | _, _, .fp .., h => by simp [closedV] at h
  | _, _, .fn f x y x' y' h1 h2, h => by simp only [closedV, Bool.and_eq_true] at h; rw [FVs.closed_eq h1 h.1, FVs.closed_eq h2 h.2]
  | _, _, .ifc t v w k, h => by simp only [closedV] at h; rw [FV.closed_eq k h]
  | _, _, .agg x y k, h => by simp only [closedV] at h; rw [FVs.closed_eq k h]
  | _, _, .tup x y k, h => by simp only [closedV] at h; rw [FVs.closed_eq k h]
theorem FVs.closed_eq : ∀ {v w : List AV}, FVs b A G v w → closedVs v = true → w = v
  | _, _, .nil, _ => rfl
  | _, _, .cons v w x y h hs, e => by simp only [closedVs, Bool.and_eq_true] at e; rw [FV.closed_eq h e.1, FVs.closed_eq hs e.2]
end

/-! values that are found equal -/
theorem bytesEq_refl (l : List UInt8) : bytesEq l l = true := bytesEq_iff.2 rfl
mutual
theorem FV.avEq_self : ∀ {v w : AV}, FV b A G v w → avEq w w = true
  | _, _, .undef => rfl
  | _, _, .bool x => by simp [avEq, boolEq_iff]
  | _, _, .int k n => by simp [avEq, ikEq_refl, intEq_iff]
  | _, _, .str s => by simp [avEq, bytesEq_refl]
  | _, _, .nilptr => rfl
  | _, _, .nilsl => rfl
  | _, _, .nilmap => rfl
  | _, _, .nilfn => rfl
  | _, _, .nilif => rfl
  | _, _, .ptr .. => by simp [avEq]
  | _, _, .sl .. => by simp [avEq, boolEq_iff]
  | _, _, .map .. => by simp [avEq]
  | _, _, .yld .. => by simp [avEq]
  | _, _, .lst .. => by simp [avEq, boolEq_iff]
  | _, _, .lst0 .. => rfl
  | _, _, .lstN .. => by simp [avEq, boolEq_iff]
  | _, _, .fp .. => by simp [avEq]
  | _, _, .fn f x y x' y' h1 h2 => by simp [avEq, FVs.avsEq_self h1, FVs.avsEq_self h2]
  | _, _, .ifc t v w k => by simp [avEq, FV.avEq_self k]
  | _, _, .agg x y k => by simp [avEq, FVs.avsEq_self k]
  | _, _, .tup x y k => by simp [avEq, FVs.avsEq_self k]
theorem FVs.avsEq_self : ∀ {v w : List AV}, FVs b A G v w → avsEq w w = true
  | _, _, .nil => rfl
  | _, _, .cons v w x y h hs => by simp [avsEq, FV.avEq_self h, FVs.avsEq_self hs]
end
variable {b2 : NMap} {A2 : Nat → Prop} {G2 : AHeap}
/-- numbers that both know stand for the same -/
def Agree (b b2 : NMap) : Prop := ∀ i j k, b i = some j → b2 i = some k → j = k
mutual
theorem FV.same (hb : Agree b b2) : ∀ {v w u : AV}, FV b A G v w → avEq v v = true → FV b2 A2 G2 v u → u = w
  | _, _, _, .undef, _, k => by cases k; rfl
  | _, _, _, .bool x, _, k => by cases k; rfl
  | _, _, _, .int _ n, _, k => by cases k; rfl
  | _, _, _, .str s, _, k => by cases k; rfl
  | _, _, _, .nilptr, _, k => by cases k; rfl
  | _, _, _, .nilsl, _, k => by cases k; rfl
  | _, _, _, .nilmap, _, k => by cases k; rfl
  | _, _, _, .nilfn, _, k => by cases k; rfl
  | _, _, _, .nilif, _, k => by cases k; rfl
  | _, _, _, .ptr i off j h, _, k => by cases k with | ptr _ _ j' h' => rw [hb _ _ _ h h']
  | _, _, _, .sl i off len cap es ex j h, _, k => by cases k with | sl _ _ _ _ _ _ j' h' => rw [hb _ _ _ h h']
  | _, _, _, .map i j h, _, k => by cases k with | map _ j' h' => rw [hb _ _ _ h h']
  | _, _, _, .yld i j h, _, k => by cases k with | yld _ j' h' => rw [hb _ _ _ h h']
  | _, _, _, .lst .., e, _ => by simp [avEq] at e
  | _, _, _, .lst0 .., e, _ => by simp [avEq] at e
  | _, _, _, .lstN .., e, _ => by simp [avEq] at e
  | _, _, _, .fp .., e, _ => by simp [avEq] at e
  | _, _, _, .fn f x y x' y' h1 h2, e, k => by
    simp only [avEq, Bool.and_eq_true] at e
    cases k with | fn _ _ _ x2 y2 k1 k2 => rw [FVs.same hb h1 e.1.2 k1, FVs.same hb h2 e.2 k2]
  | _, _, _, .ifc t v w h, e, k => by
    simp only [avEq, Bool.and_eq_true] at e
    cases k with | ifc _ _ w' k1 => rw [FV.same hb h e.2 k1]
  | _, _, _, .agg x y h, e, k => by
    simp only [avEq] at e
    cases k with | agg _ y' k1 => rw [FVs.same hb h e k1]
  | _, _, _, .tup x y h, e, k => by
    simp only [avEq] at e
    cases k with | tup _ y' k1 => rw [FVs.same hb h e k1]
theorem FVs.same (hb : Agree b b2) : ∀ {v w u : List AV}, FVs b A G v w → avsEq v v = true → FVs b2 A2 G2 v u → u = w
  | _, _, _, .nil, _, k => by cases k; rfl
  | _, _, _, .cons v w x y h hs, e, k => by
    simp only [avsEq, Bool.and_eq_true] at e
    cases k with | cons _ w' _ y' k1 k2 => rw [FV.same hb h e.1 k1, FVs.same hb hs e.2 k2]
end
end

/-! frames, objects, memory -/
def FT (b : NMap) (A : Nat → Prop) (G : AHeap) (T T' : Fr) : Prop := ∀ p, FV b A G (Fr.at_ T p) (Fr.at_ T' p)
theorem FT.mono {b b2 : NMap} {A A2 : Nat → Prop} {G G2 : AHeap} (m : Mo b A G b2 A2 G2) {T T' : Fr} (h : FT b A G T T') : FT b2 A2 G2 T T' := fun p => (h p).mono m
theorem FT.set {b : NMap} {A : Nat → Prop} {G : AHeap} {T T' : Fr} (h : FT b A G T T') {v w : AV} (hv : FV b A G v w) (p : List Bool) : FT b A G (Tr.set T p v) (Tr.set T' p w) := fun q => by
  by_cases e : p = q
  · subst e; rw [at_set_same, at_set_same]; exact hv
  · rw [at_set_ne _ _ _ _ e, at_set_ne _ _ _ _ e]; exact h q
theorem FT.putD {b : NMap} {A : Nat → Prop} {G : AHeap} {T T' : Fr} (h : FT b A G T T') {v w : AV} (hv : FV b A G v w) (d : Option (List Bool)) : FT b A G (AM.putD d v T) (AM.putD d w T') := by
  cases d with
  | none => exact h
  | some p => exact h.set hv p
theorem at_leaf (p : List Bool) : Fr.at_ .leaf p = .undef := by simp [Fr.at_, Tr.get_leaf]
theorem FT.leaf {b : NMap} {A : Nat → Prop} {G : AHeap} : FT b A G .leaf .leaf := fun p => by rw [at_leaf]; exact .undef
theorem FT.frameOf {b : NMap} {A : Nat → Prop} {G : AHeap} : ∀ {x y : List AV} {k : Nat} {T T' : Fr}, FVs b A G x y → FT b A G T T' → FT b A G (AM.frameOf k x T) (AM.frameOf k y T')
  | _, _, _, _, _, .nil, h => h
  | _, _, k, _, _, .cons v w x y hv hs, h => FT.frameOf (k := k + 1) (x := x) (y := y) hs (h.set hv (path k))

/-! constants of the code -/
def okX : AX → Bool
  | .t _ => true
  | .c v => closedV v
def okXs : List AX → Bool
  | [] => true
  | x :: r => okX x && okXs r
def okO : Option AX → Bool
  | none => true
  | some x => okX x
def okPs : List (Nat × Nat × AX) → Bool
  | [] => true
  | (_, _, x) :: r => okX x && okPs r
def okOp : AOp → Bool
  | .bad => true
  | .mov x | .box x | .load x _ _ | .nilchk x | .un _ x | .convI _ x | .mkif _ x | .faddr _ x | .field _ _ _ x | .extract x _ | .len _ x => okX x
  | .pick c x y => okX c && (okX x && okX y)
  | .alloc cs => closedVs cs
  | .build z ps => closedVs z && okPs ps
  | .bslice _ _ z ps => closedVs z && okPs ps
  | .store x v _ => okX x && okX v
  | .bin _ x y | .eqv _ _ x y => okX x && okX y
  | .mkfn _ a c => okXs a && okXs c
  | .mkmap _ => true
  | .mkslice _ _ z l c => closedVs z && (okX l && okX c)
  | .slice _ x lo hi mx => okX x && (okO lo && (okO hi && okO mx))
  | .slarr _ _ x lo hi mx => okX x && (okO lo && (okO hi && okO mx))
  | .slstr x lo hi => okX x && (okO lo && okO hi)
  | .iaddrS _ x i | .iaddrA _ _ x i | .idxA _ _ _ x i | .idxS x i => okX x && okX i
  | .lookup _ z _ m k => closedV z && (okX m && okX k)
  | .mapset _ m k v => okX m && (okX k && okX v)
  | .append _ _ s x => okX s && okX x
  | .copy _ d s => okX d && okX s
  | .clear z x => closedVs z && okX x
  | .mx xs => okXs xs
  | .mn xs => okXs xs
  | .call _ a => okXs a
  | .callv x a => okX x && okXs a
def okOps : List AOper → Bool
  | [] => true
  | o :: r => okOp o.op && okOps r
def okDs : List (DK × AOper) → Bool
  | [] => true
  | (_, o) :: r => okOp o.op && okDs r
def okC : ACode → Bool
  | .region l => okOps l
  | .draw l => okDs l
  | .seq a b => okC a && okC b
  | .cond c a b => okX c && (okC a && okC b)
  | .block _ a => okC a
  | .loop a => okC a
  | .rangef f _ a b => okX f && (okC a && okC b)
  | _ => true

inductive FE (b : NMap) (A : Nat → Prop) (G : AHeap) : List (AV × AV × Nat) → List (AV × AV × Nat) → Prop where
  | nil : FE b A G [] []
  | cons (k v k' v' : AV) (n : Nat) (r r' : List (AV × AV × Nat)) (hk : FV b A G k k') (hv : FV b A G v v') (hr : FE b A G r r') : FE b A G ((k, v, n) :: r) ((k', v', n) :: r')
theorem FE.mono {b b2 : NMap} {A A2 : Nat → Prop} {G G2 : AHeap} (m : Mo b A G b2 A2 G2) : ∀ {x y : List (AV × AV × Nat)}, FE b A G x y → FE b2 A2 G2 x y
  | _, _, .nil => .nil
  | _, _, .cons k v k' v' n r r' hk hv hr => .cons k v k' v' n r r' (hk.mono m) (hv.mono m) (hr.mono m)

inductive FO (b : NMap) (A : Nat → Prop) (G : AHeap) : AObj → AObj → Prop where
  | cells (x y : List AV) (st : BSt) (h : FVs b A G x y) : FO b A G (.cells x st) (.cells y st)
  | map (kl : Nat) (x y : List (AV × AV × Nat)) (ck : Nat) (h : FE b A G x y) : FO b A G (.map kl x ck) (.map kl y ck)
  | loop (st : LoopState) (pend : Option AExit) (T T' : Fr) (ps : List (List Bool)) (assign body : ACode) (h : FT b A G T T') (ha : okC assign = true) (hb : okC body = true) :
      FO b A G (.loop ⟨st, pend, T, ps, assign, body⟩) (.loop ⟨st, pend, T', ps, assign, body⟩)
theorem FO.mono {b b2 : NMap} {A A2 : Nat → Prop} {G G2 : AHeap} (m : Mo b A G b2 A2 G2) {o u : AObj} (h : FO b A G o u) : FO b2 A2 G2 o u := by
  cases h with
  | cells x y st h => exact .cells _ _ _ (h.mono m)
  | map kl x y ck h => exact .map _ _ _ _ (h.mono m)
  | loop st pend T T' ps a c h ha hb => exact .loop _ _ _ _ _ _ _ (h.mono m) ha hb

structure FH (b : NMap) (A B : Nat → Prop) (H G : AHeap) : Prop where
  dom : ∀ i j, b i = some j → i < H.nx ∧ j < G.nx
  inj : ∀ i i' j, b i = some j → b i' = some j → i = i'
  hfre : ∀ i, H.nx ≤ i → H.get i = none
  gfre : ∀ j, G.nx ≤ j → G.get j = none
  alt : ∀ j, A j → j < G.nx ∧ ¬ B j
  blt : ∀ j, B j → j < G.nx
  obj : ∀ i o, H.get i = some o → live o = true → ∃ j u, b i = some j ∧ ¬ A j ∧ ¬ B j ∧ G.get j = some u ∧ FO b A G o u

/-- what a run keeps -/
structure Ke (b : NMap) (A B : Nat → Prop) (G : AHeap) (b2 : NMap) (A2 : Nat → Prop) (G2 : AHeap) : Prop where
  mo : Mo b A G b2 A2 G2
  nx : G.nx ≤ G2.nx
  by_ : ∀ j, B j → G2.get j = G.get j
  new : ∀ i j, b2 i = some j → b i = some j ∨ G.nx ≤ j
theorem Ke.refl (b : NMap) (A B : Nat → Prop) (G : AHeap) : Ke b A B G b A G := ⟨Mo.refl .., Nat.le_refl _, fun _ _ => rfl, fun _ _ e => .inl e⟩
theorem Ke.trans {b b2 b3 : NMap} {A A2 A3 B : Nat → Prop} {G G2 G3 : AHeap} (h : Ke b A B G b2 A2 G2) (k : Ke b2 A2 B G2 b3 A3 G3) : Ke b A B G b3 A3 G3 :=
  ⟨h.mo.trans k.mo, Nat.le_trans h.nx k.nx, fun j e => (k.by_ j e).trans (h.by_ j e), fun i j e => (k.new i j e).elim (fun e => h.new i j e) fun e => .inr (Nat.le_trans h.nx e)⟩

section
variable {b : NMap} {A B : Nat → Prop} {H G : AHeap}
def addB (b : NMap) (i j : Nat) : NMap := fun k => if k = i then some j else b k
theorem addB_same (b : NMap) (i j : Nat) : addB b i j i = some j := by simp [addB]
theorem addB_ne {i k : Nat} (b : NMap) (j : Nat) (h : k ≠ i) : addB b i j k = b k := by simp [addB, h]

theorem FH.push_mo (h : FH b A B H G) (u : AObj) : Mo b A G (addB b H.nx G.nx) A (G.push u) := by
  refine ⟨fun i j e => ?_, fun j e => e, fun j e => ?_⟩
  · rw [addB_ne _ _ (by have := (h.dom i j e).1; omega)]; exact e
  · exact get_push_ne _ _ _ (by have := (h.alt j e).1; omega)
theorem FH.push_ke (h : FH b A B H G) (u : AObj) : Ke b A B G (addB b H.nx G.nx) A (G.push u) :=
  ⟨h.push_mo u, by simp, fun j e => get_push_ne _ _ _ (by have := h.blt j e; omega), fun i j e => by
    by_cases hi : i = H.nx
    · subst hi; rw [addB_same] at e; cases e; exact .inr (Nat.le_refl _)
    · rw [addB_ne _ _ hi] at e; exact .inl e⟩
/-- a new object -/
theorem FH.push (h : FH b A B H G) {o u : AObj} (ho : live o = true → FO (addB b H.nx G.nx) A (G.push u) o u) : FH (addB b H.nx G.nx) A B (H.push o) (G.push u) := by
  have old : ∀ i j, addB b H.nx G.nx i = some j → i ≠ H.nx → b i = some j := fun i j e hi => by rw [addB_ne _ _ hi] at e; exact e
  refine { dom := fun i j e => ?_, inj := fun i i' j e e' => ?_, hfre := fun i hi => ?_, gfre := fun j hj => ?_, alt := fun j e => ?_, blt := fun j e => ?_, obj := fun i o' g l => ?_ }
  · by_cases hi : i = H.nx
    · subst hi; rw [addB_same] at e; cases e; simp
    · have := h.dom i j (old i j e hi); simp; omega
  · by_cases hi : i = H.nx
    · subst hi
      rw [addB_same] at e; cases e
      by_cases hi' : i' = H.nx
      · exact hi'.symm
      · have := (h.dom i' _ (old i' _ e' hi')).2; omega
    · by_cases hi' : i' = H.nx
      · subst hi'
        rw [addB_same] at e'; cases e'
        have := (h.dom i _ (old i _ e hi)).2; omega
      · exact h.inj i i' j (old _ _ e hi) (old _ _ e' hi')
  · simp at hi; rw [get_push_ne _ _ _ (by omega)]; exact h.hfre i (by omega)
  · simp at hj; rw [get_push_ne _ _ _ (by omega)]; exact h.gfre j (by omega)
  · have := h.alt j e; simp; exact ⟨by omega, this.2⟩
  · have := h.blt j e; simp; omega
  · by_cases hi : i = H.nx
    · subst hi
      rw [get_push_same] at g; cases g
      refine ⟨G.nx, u, addB_same .., fun e => ?_, fun e => ?_, get_push_same .., ho l⟩
      · have := (h.alt _ e).1; omega
      · have := h.blt _ e; omega
    · rw [get_push_ne _ _ _ hi] at g
      obtain ⟨j, u', h1, h2, h3, h4, h5⟩ := h.obj i o' g l
      refine ⟨j, u', by rw [addB_ne _ _ hi]; exact h1, h2, h3, ?_, h5.mono (h.push_mo u)⟩
      rw [get_push_ne _ _ _ (by have := (h.dom _ _ h1).2; omega)]
      exact h4

theorem FH.put_ke {j : Nat} (hA : ¬ A j) (hB : ¬ B j) (u : AObj) : Ke b A B G b A (G.put j u) :=
  ⟨⟨fun _ _ e => e, fun _ e => e, fun k e => get_put_ne _ _ _ _ (fun q => hA (q ▸ e))⟩, by simp, fun k e => get_put_ne _ _ _ _ (fun q => hB (q ▸ e)), fun _ _ e => .inl e⟩
/-- an object told anew -/
theorem FH.put (h : FH b A B H G) {i j : Nat} (hi : b i = some j) (hA : ¬ A j) (hB : ¬ B j) {o u : AObj} (ho : live o = true → FO b A (G.put j u) o u) : FH b A B (H.put i o) (G.put j u) := by
  have mo := (FH.put_ke (b := b) (G := G) hA hB u).mo
  have hd := h.dom _ _ hi
  refine { dom := h.dom, inj := h.inj, hfre := fun k hk => ?_, gfre := fun k hk => ?_, alt := h.alt, blt := h.blt, obj := fun k o' g l => ?_ }
  · simp at hk; rw [get_put_ne _ _ _ _ (by omega)]; exact h.hfre k hk
  · simp at hk; rw [get_put_ne _ _ _ _ (by omega)]; exact h.gfre k hk
  · by_cases e : i = k
    · subst e
      rw [get_put_same] at g; cases g
      exact ⟨j, u, hi, hA, hB, get_put_same .., ho l⟩
    · rw [get_put_ne _ _ _ _ e] at g
      obtain ⟨q, u', h1, h2, h3, h4, h5⟩ := h.obj k o' g l
      refine ⟨q, u', h1, h2, h3, ?_, h5.mono mo⟩
      rw [get_put_ne _ _ _ _ (fun e' => e (h.inj _ _ _ hi (by rw [e']; exact h1)))]
      exact h4
/-- an object given up: the memory may hold there what it will -/
theorem FH.gone (h : FH b A B H G) {i j : Nat} (hi : b i = some j) (hA : ¬ A j) (hB : ¬ B j) (u : AObj) : FH b A B (H.put i .gone) (G.put j u) := h.put hi hA hB fun l => by cases l
end
end Go.AM
/- Frozen parts: each operation goes alike on both sides. -/
namespace Go.AM
open Go

section
variable {b : NMap} {A B : Nat → Prop} {H G : AHeap}

def SimP (b : NMap) (A : Nat → Prop) (G : AHeap) (o o' : Option AV) : Prop := ∀ v, o = some v → ∃ w, o' = some w ∧ FV b A G v w
def SimV (b : NMap) (A B : Nat → Prop) (G : AHeap) (r r' : Option (AV × AHeap)) : Prop :=
  ∀ v H2, r = some (v, H2) → ∃ w b2 G2, r' = some (w, G2) ∧ FH b2 A B H2 G2 ∧ Ke b A B G b2 A G2 ∧ FV b2 A G2 v w
theorem SimV.none {r' : Option (AV × AHeap)} : SimV b A B G none r' := fun _ _ e => by cases e
theorem SimP.none {o' : Option AV} : SimP b A G none o' := fun _ e => by cases e
theorem SimP.some {v w : AV} (h : FV b A G v w) : SimP b A G (some v) (some w) := fun _ e => by cases e; exact ⟨w, rfl, h⟩
theorem SimP.sim (h : FH b A B H G) {o o' : Option AV} (p : SimP b A G o o') : SimV b A B G (ret H o) (ret G o') := by
  intro v H2 e
  cases o with
  | none => cases e
  | some u =>
    cases e
    obtain ⟨w, rfl, h2⟩ := p _ rfl
    exact ⟨w, b, G, rfl, h, Ke.refl .., h2⟩

inductive FOp (b : NMap) (A : Nat → Prop) (G : AHeap) : Option AV → Option AV → Prop where
  | none : FOp b A G none none
  | some (v w : AV) (h : FV b A G v w) : FOp b A G (some v) (some w)

/-! looks at a value -/
variable {v w : AV}
theorem asB_r (h : FV b A G v w) {x : Bool} (e : asB v = some x) : asB w = some x := by cases h <;> simp only [asB] at e ⊢ <;> first | exact e | cases e
theorem asN_r (h : FV b A G v w) {x : Nat} (e : asN v = some x) : asN w = some x := by cases h <;> first | exact e | cases e
theorem asI_r (h : FV b A G v w) {x : Int} (e : asI v = some x) : asI w = some x := by cases h <;> simp only [asI] at e ⊢ <;> first | exact e | cases e
theorem asStr_r (h : FV b A G v w) {x : ByteArray} (e : asStr v = some x) : asStr w = some x := by cases h <;> simp only [asStr] at e ⊢ <;> first | exact e | cases e
theorem asA_r (h : FV b A G v w) {x : List AV} (e : asA v = some x) : ∃ y, asA w = some y ∧ FVs b A G x y := by
  cases h <;> simp only [asA] at e <;> first | (cases e; done) | skip
  cases e; exact ⟨_, rfl, by assumption⟩
theorem asT_r (h : FV b A G v w) {x : List AV} (e : asT v = some x) : ∃ y, asT w = some y ∧ FVs b A G x y := by
  cases h <;> simp only [asT] at e <;> first | (cases e; done) | skip
  cases e; exact ⟨_, rfl, by assumption⟩
theorem asP_r (h : FV b A G v w) {x : Nat × Nat} (e : asP v = some x) : ∃ j, b x.1 = some j ∧ w = .ptr j x.2 := by
  cases h <;> simp only [asP] at e <;> first | (cases e; done) | skip
  cases e; exact ⟨_, by assumption, rfl⟩

/-! numbers, texts -/
theorem binI_out {op : BinOp} {k : IntKind} {x y : Int} {v : AV} (e : binI op k x y = some v) : closedV v = true := by
  unfold binI at e
  cases op <;> simp only at e <;> first
    | (cases e; done)
    | (cases e; rfl)
    | (split at e <;> cases e <;> rfl)
theorem shiftI_out {op : BinOp} {k : IntKind} {x y : Int} {v : AV} (e : shiftI op k x y = some v) : closedV v = true := by
  unfold shiftI at e
  split at e <;> first | (cases e; done) | skip
  split at e <;> cases e <;> rfl
theorem binS_out {op : BinOp} {x y : ByteArray} {v : AV} (e : binS op x y = some v) : closedV v = true := by
  unfold binS at e
  split at e <;> first | (cases e; done) | (cases e; rfl) | skip
  all_goals (split at e <;> cases e <;> rfl)
theorem bin_r {op : BinOp} {x y x' y' : AV} (hx : FV b A G x x') (hy : FV b A G y y') : SimP b A G (bin op x y) (bin op x' y') := by
  intro v e
  have key : x' = x ∧ y' = y ∧ closedV v = true := by
    unfold bin at e
    split at e
    · cases hx; cases hy
      refine ⟨rfl, rfl, ?_⟩
      split at e
      · exact shiftI_out e
      · exact shiftI_out e
      · split at e
        · exact binI_out e
        · cases e
    · cases hx; cases hy
      exact ⟨rfl, rfl, binS_out e⟩
    · cases e
  obtain ⟨rfl, rfl, hc⟩ := key
  exact ⟨v, e, FV.closed hc⟩
theorem flatEq_r : ∀ {x y x' y' : List AV}, FVs b A G x x' → FVs b A G y y' → ∀ {r : Bool}, flatEq x y = some r → flatEq x' y' = some r
  | _, _, _, _, .nil, .nil, _, e => e
  | _, _, _, _, .nil, .cons .., _, e => by simp [flatEq] at e
  | _, _, _, _, .cons v _ _ _ _ _, .nil, _, e => by cases v <;> simp [flatEq] at e
  | _, _, _, _, .cons v w x x' h hs, .cons v2 w2 y y' k ks, r, e => by
    unfold flatEq at e
    split at e
    · rename_i e1 _; cases e1
    · rename_i e1 e2
      cases e1; cases e2
      cases h; cases k
      simp only [flatEq]
      split at e <;> first | (cases e; done) | skip
      rename_i h1
      rw [if_pos h1]
      split at e
      · rename_i h2; rw [if_pos h2]; exact flatEq_r hs ks e
      · rename_i h2; rw [if_neg h2]; exact e
    · rename_i e1 e2
      cases e1; cases e2
      cases h; cases k
      simp only [flatEq]
      split at e
      · rename_i h2; rw [if_pos h2]; exact flatEq_r hs ks e
      · rename_i h2; rw [if_neg h2]; exact e
    · cases e
theorem FV.lst_sl {es n : Nat} {cs : List AV} (h : FV b A G (.lst es n cs) w) {r : Bool} (hn : lstNil n cs = some r) : r = false ∧ ∃ j off cap ex, w = .sl j off n cap es ex := by
  cases h with
  | lst0 => cases hn
  | lstN _ j off cap ex => cases hn; exact ⟨rfl, _, _, _, _, rfl⟩
  | lst _ _ _ j off cap ex =>
    refine ⟨?_, _, _, _, _, rfl⟩
    unfold lstNil at hn
    split at hn
    · split at hn <;> cases hn; rfl
    · cases hn; rfl
theorem eqv_r {k : EqK} {x y x' y' : AV} (hx : FV b A G x x') (hy : FV b A G y y') {r : Bool} (e : eqv k x y = some r) : eqv k x' y' = some r := by
  unfold eqv at e
  split at e <;> first | (cases e; done) | skip
  case h_1 => cases hx; cases hy; exact e
  case h_2 => cases hx; cases hy; exact e
  case h_3 => cases hx; cases hy; exact e
  case h_4 => cases hx; cases hy; exact e
  case h_5 =>
    obtain ⟨rfl, j, off, cap, ex, rfl⟩ := hy.lst_sl e
    cases hx; rfl
  case h_6 =>
    obtain ⟨rfl, j, off, cap, ex, rfl⟩ := hx.lst_sl e
    cases hy; rfl
  case h_18 =>
    cases hx with
    | agg _ x1 k1 =>
      cases hy with
      | agg _ y1 k2 =>
        split at e <;> first | (cases e; done) | skip
        rename_i hl
        simp only [eqv, k1.length, k2.length]
        rw [if_pos hl]
        exact flatEq_r k1 k2 e
  all_goals (cases hx; cases hy; exact e)
theorem opEqv_r {neg : Bool} {k : EqK} {x y x' y' : AV} (hx : FV b A G x x') (hy : FV b A G y y') : SimP b A G (opEqv neg k x y) (opEqv neg k x' y') := by
  intro v e
  unfold opEqv at e ⊢
  split at e <;> cases e
  rename_i r hr
  rw [eqv_r hx hy hr]
  exact ⟨_, rfl, .bool _⟩
theorem unop_r {op : UnOp} {x x' : AV} (hx : FV b A G x x') : SimP b A G (unop op x) (unop op x') := by
  intro v e
  unfold unop at e
  split at e <;> first | (cases e; done) | skip
  all_goals (cases hx; cases e; exact ⟨_, rfl, FV.closed rfl⟩)
theorem convI_r {k : IntKind} {x x' : AV} (hx : FV b A G x x') : SimP b A G (opConvI k x) (opConvI k x') := by
  intro v e
  unfold opConvI at e ⊢
  split at e <;> cases e
  rename_i n hn
  rw [asI_r hx hn]
  exact ⟨_, rfl, .int _ _⟩
theorem mkif_r {t : Nat} {x x' : AV} (hx : FV b A G x x') : SimP b A G (opMkif t x) (opMkif t x') := by
  intro v e
  have hv : x ≠ .undef ∧ v = .ifc t x := by
    unfold opMkif at e
    split at e <;> cases e
    rename_i h
    exact ⟨h, rfl⟩
  obtain ⟨h1, rfl⟩ := hv
  refine ⟨.ifc t x', ?_, .ifc _ _ _ hx⟩
  unfold opMkif
  split
  · cases hx; exact absurd rfl h1
  · rfl

/-! memory -/
theorem rangeOf_iff {off n : Nat} {cs l : List AV} : rangeOf off n cs = some l ↔ off + n ≤ cs.length ∧ l = (cs.drop off).take n := by
  constructor
  · intro e
    have h := (rangeOf_get _ _ _ _ e).2.1
    rw [rangeOf_some h] at e
    exact ⟨h, (Option.some.inj e).symm⟩
  · rintro ⟨h, rfl⟩
    exact rangeOf_some h
theorem rangeOf_in {base m off n : Nat} {cs l r : List AV} (h1 : rangeOf base m cs = some l) (h2 : rangeOf off n l = some r) : rangeOf (base + off) n cs = some r := by
  rw [rangeOf_iff] at h1 h2 ⊢
  obtain ⟨h3, rfl⟩ := h1
  obtain ⟨h4, rfl⟩ := h2
  have hlen : off + n ≤ m := by rw [List.length_take] at h4; omega
  refine ⟨by omega, ?_⟩
  rw [List.drop_take, List.take_take, List.drop_drop, Nat.min_eq_left (by omega)]
theorem load_r (h : FH b A B H G) {i j off n : Nat} (hi : b i = some j) {l : List AV} (e : H.load i off n = some l) : ∃ l', G.load j off n = some l' ∧ FVs b A G l l' := by
  unfold AHeap.load at e
  split at e <;> first | (cases e; done) | skip
  rename_i cs st hg
  obtain ⟨j', u, h1, _, _, h4, h5⟩ := h.obj _ _ hg rfl
  rw [hi] at h1; cases h1
  cases h5 with
  | cells _ y _ k =>
    obtain ⟨l', h6, h7⟩ := rangeOf_r k e
    exact ⟨l', by simp only [AHeap.load, h4, h6], h7⟩
/-- a frozen block is read -/
theorem fp_load {off n : Nat} {cs : List AV} (h : FV b A G (.fp off cs) w) {l : List AV} (e : rangeOf off n cs = some l) : ∃ j o l', w = .ptr j o ∧ A j ∧ G.load j o n = some l' ∧ FVs b A G l l' := by
  cases h with
  | fp _ _ j base m lc st l' hA hG hr k =>
    obtain ⟨l2, h1, h2⟩ := rangeOf_r k e
    exact ⟨j, base + off, l2, rfl, hA, by simp only [AHeap.load, hG, rangeOf_in hr h1], h2⟩
theorem mkValO_r {ag : Bool} {x y : List AV} (h : FVs b A G x y) : SimP b A G (mkValO ag (some x)) (mkValO ag (some y)) := fun _ e => mkVal_r h e
theorem opLoad_r (h : FH b A B H G) {x x' : AV} (hx : FV b A G x x') {ag : Bool} {n : Nat} : SimV b A B G (opLoad x ag n H) (opLoad x' ag n G) := by
  intro v H2 e
  unfold opLoad at e
  split at e <;> first | (cases e; done) | skip
  · rename_i i off
    cases hx with
    | ptr _ _ j hi =>
      cases hl : H.load i off n with
      | none => rw [hl] at e; cases e
      | some l =>
        rw [hl] at e
        obtain ⟨l', h1, h2⟩ := load_r h hi hl
        simp only [opLoad, h1]
        exact (mkValO_r h2).sim h v H2 e
  · rename_i off cs
    cases hl : rangeOf off n cs with
    | none => rw [hl] at e; cases e
    | some l =>
      rw [hl] at e
      obtain ⟨j, o, l', rfl, _, h1, h2⟩ := fp_load hx hl
      simp only [opLoad, h1]
      exact (mkValO_r h2).sim h v H2 e
theorem store_r (h : FH b A B H G) {i j off : Nat} (hi : b i = some j) {vs vs' : List AV} (hv : FVs b A G vs vs') {H2 : AHeap} (e : H.store i off vs = some H2) :
    ∃ G2, G.store j off vs' = some G2 ∧ FH b A B H2 G2 ∧ Ke b A B G b A G2 := by
  unfold AHeap.store at e
  split at e <;> first | (cases e; done) | skip
  rename_i cs hg
  split at e <;> cases e
  rename_i l hl
  obtain ⟨j', u, h1, h2, h3, h4, h5⟩ := h.obj _ _ hg rfl
  rw [hi] at h1; cases h1
  cases h5 with
  | cells _ y _ k =>
    obtain ⟨l', h6, h7⟩ := write_r hv k hl
    have ke := FH.put_ke (b := b) (G := G) h2 h3 (.cells l' .own)
    exact ⟨G.put j (.cells l' .own), by simp only [AHeap.store, h4, h6], h.put hi h2 h3 fun _ => .cells _ _ _ (h7.mono ke.mo), ke⟩
theorem storeCs_r (h : FH b A B H G) {i j off n : Nat} (hi : b i = some j) {vs vs' : List AV} (hv : FVs b A G vs vs') {H2 : AHeap} (e : storeCs (i, off) n vs H = some H2) :
    ∃ G2, storeCs (j, off) n vs' G = some G2 ∧ FH b A B H2 G2 ∧ Ke b A B G b A G2 := by
  unfold storeCs at e ⊢
  split at e <;> first | (cases e; done) | skip
  rename_i hc
  rw [hv.length, hv.allCells, if_pos hc]
  exact store_r h hi hv e
theorem opStore_r (h : FH b A B H G) {x x' y y' : AV} (hx : FV b A G x x') (hy : FV b A G y y') {n : Nat} : SimV b A B G (opStore x y n H) (opStore x' y' n G) := by
  intro v H2 e
  unfold opStore at e
  split at e <;> first | (cases e; done) | skip
  rename_i a ha
  split at e <;> first | (cases e; done) | skip
  rename_i cs hcs
  obtain ⟨j, hj, rfl⟩ := asP_r hx ha
  obtain ⟨cs', h1, h2⟩ := hy.cellsOf hcs
  unfold retH at e
  split at e <;> cases e
  rename_i hs
  obtain ⟨G2, g1, g2, g3⟩ := storeCs_r h hj h2 hs
  exact ⟨.undef, b, G2, by simp only [opStore, asP, h1, g1, retH], g2, g3, .undef⟩
theorem lay_r (h : FH b A B H G) {cs cs' : List AV} (hc : FVs b A G cs cs') {vf : Nat → AV} (hv : ∀ i j b2, b2 i = some j → FV b2 A (lay cs' G) (vf i) (vf j)) :
    SimV b A B G (some (vf H.nx, lay cs H)) (some (vf G.nx, lay cs' G)) := by
  intro v H2 e
  cases e
  have ke := h.push_ke (.cells cs' .own)
  exact ⟨_, addB b H.nx G.nx, _, rfl, h.push fun _ => .cells _ _ _ (hc.mono ke.mo), ke, hv _ _ _ (addB_same ..)⟩
theorem opBox_r (h : FH b A B H G) {x x' : AV} (hx : FV b A G x x') : SimV b A B G (opBox x H) (opBox x' G) := by
  intro v H2 e
  unfold opBox at e
  split at e <;> first | (cases e; done) | skip
  rename_i cs hcs
  obtain ⟨cs', h1, h2⟩ := hx.cellsOf hcs
  simp only [opBox, h1]
  exact lay_r h h2 (vf := fun i => .ptr i 0) (fun i j b2 hb => .ptr _ _ _ hb) v H2 e
theorem opBuild_r (h : FH b A B H G) {z : List AV} (hz : closedVs z = true) {ps ps' : List (Nat × Nat × AV)} (hp : FPs b A G ps ps') : SimV b A B G (opBuild z ps H) (opBuild z ps' G) := by
  intro v H2 e
  unfold opBuild at e
  split at e <;> cases e
  rename_i cs hcs
  obtain ⟨cs', h1, h2⟩ := fill_r (FVs.closed hz) hp hcs
  exact ⟨.agg cs', b, G, by simp only [opBuild, h1], h, Ke.refl .., .agg _ _ h2⟩
theorem opBslice_r (h : FH b A B H G) {es n : Nat} {z : List AV} (hz : closedVs z = true) {ps ps' : List (Nat × Nat × AV)} (hp : FPs b A G ps ps') : SimV b A B G (opBslice es n z ps H) (opBslice es n z ps' G) := by
  intro v H2 e
  unfold opBslice at e
  split at e <;> first | (cases e; done) | skip
  rename_i cs hcs
  obtain ⟨cs', h1, h2⟩ := fill_r (FVs.closed hz) hp hcs
  simp only [opBslice, h1]
  exact lay_r h h2 (vf := fun i => .sl i 0 n n es true) (fun i j b2 hb => .sl _ _ _ _ _ _ _ hb) v H2 e
theorem opNilchk_r (h : FH b A B H G) {x x' : AV} (hx : FV b A G x x') : SimV b A B G (opNilchk x H) (opNilchk x' G) := by
  intro v H2 e
  unfold opNilchk at e
  split at e <;> cases e
  · cases hx with | ptr _ _ j hj => exact ⟨_, b, G, rfl, h, Ke.refl .., .ptr _ _ _ hj⟩
  · have hx2 := hx
    cases hx with | fp _ _ j base m l st l' hA hG hr k => exact ⟨_, b, G, rfl, h, Ke.refl .., hx2⟩
  · have hx2 := hx
    cases hx with | fn _ _ _ x' y' k1 k2 => exact ⟨_, b, G, rfl, h, Ke.refl .., hx2⟩
theorem repl_closed {z : List AV} (hz : closedVs z = true) : ∀ n, closedVs (repl z n) = true := by
  have app : ∀ {x y : List AV}, closedVs x = true → closedVs y = true → closedVs (x ++ y) = true := by
    intro x
    induction x with
    | nil => intro y _ hy; exact hy
    | cons v x ih => intro y hx hy; simp only [closedVs, Bool.and_eq_true, List.cons_append] at hx ⊢; exact ⟨hx.1, ih hx.2 hy⟩
  intro n
  induction n with
  | zero => rfl
  | succ n ih => exact app hz ih
theorem opMkslice_r (h : FH b A B H G) {es by_ : Nat} {z : List AV} (hz : closedVs z = true) {l c l' c' : AV} (hl : FV b A G l l') (hc : FV b A G c c') : SimV b A B G (opMkslice es by_ z l c H) (opMkslice es by_ z l' c' G) := by
  intro v H2 e
  unfold opMkslice at e
  split at e <;> first | (cases e; done) | skip
  rename_i l c
  cases hl; cases hc
  split at e <;> first | (cases e; done) | skip
  rename_i hk
  simp only [opMkslice, hk, if_true]
  exact lay_r h (FVs.closed (repl_closed hz c)) (vf := fun i => .sl i 0 l c es true) (fun i j b2 hb => .sl _ _ _ _ _ _ _ hb) v H2 e

/-! slices -/
theorem bnd_r {v w : AV} (h : FV b A G v w) {y i : Nat} (e : bnd v y = some i) : bnd w y = some i := by
  unfold bnd at e
  split at e <;> first | (cases e; done) | skip
  cases h; exact e
theorem bnd_le {v : AV} {y i : Nat} (e : bnd v y = some i) : i ≤ y := by
  unfold bnd at e
  split at e <;> first | (cases e; done) | skip
  split at e <;> cases e
  exact Nat.le_of_ble_eq_true ‹_›
theorem bnd_up {v : AV} {y z i : Nat} (e : bnd v y = some i) (h : y ≤ z) : bnd v z = some i := by
  unfold bnd at e ⊢
  split at e <;> first | (cases e; done) | skip
  split at e <;> cases e
  rename_i hb
  have := Nat.le_of_ble_eq_true hb
  simp only [Nat.ble_eq_true_of_le (Nat.le_trans this h), if_true]
/-- bounds of a slice whose room is n at least -/
theorem bounds_r {n cap cap' : Nat} {lo hi mx lo' hi' mx' : Option AV} (hl : FOp b A G lo lo') (hh : FOp b A G hi hi') (hm : FOp b A G mx mx') (hcap : cap ≤ cap') {r : Nat × Nat × Nat} (e : bounds n cap lo hi mx = some r) :
    bounds n cap' lo' hi' mx' = some (r.1, r.2.1, if mx.isSome then r.2.2 else cap') := by
  unfold bounds at e ⊢
  cases hm with
  | none =>
    simp only at e ⊢
    cases hh with
    | none =>
      simp only at e ⊢
      cases hl with
      | none => simp only at e ⊢; cases e; rfl
      | some u1 u2 hu =>
        simp only at e ⊢
        split at e <;> cases e
        rename_i hb
        rw [bnd_r hu hb]; rfl
    | some v1 v2 hv =>
      simp only at e ⊢
      split at e <;> first | (cases e; done) | skip
      rename_i hh' hb
      rw [bnd_up (bnd_r hv hb) hcap]
      simp only
      cases hl with
      | none => simp only at e ⊢; cases e; rfl
      | some u1 u2 hu =>
        simp only at e ⊢
        split at e <;> cases e
        rename_i hb2
        rw [bnd_r hu hb2]; rfl
  | some m1 m2 hm =>
    simp only at e ⊢
    split at e <;> first | (cases e; done) | skip
    rename_i mm hb0
    rw [bnd_up (bnd_r hm hb0) hcap]
    simp only
    cases hh with
    | none => simp only at e; cases e
    | some v1 v2 hv =>
      simp only at e ⊢
      split at e <;> first | (cases e; done) | skip
      rename_i hh' hb
      rw [bnd_r hv hb]
      simp only
      cases hl with
      | none => simp only at e ⊢; cases e; rfl
      | some u1 u2 hu =>
        simp only at e ⊢
        split at e <;> cases e
        rename_i hb2
        rw [bnd_r hu hb2]; rfl
theorem bounds_le {n cap : Nat} {lo hi mx : Option AV} {r : Nat × Nat × Nat} (hn : n ≤ cap) (e : bounds n cap lo hi mx = some r) : r.1 ≤ r.2.1 ∧ r.2.1 ≤ r.2.2 ∧ r.2.2 ≤ cap := by
  unfold bounds at e
  split at e <;> first | (cases e; done) | skip
  rename_i m hm
  have hmc : m ≤ cap := by
    split at hm
    · exact bnd_le hm
    · cases hm; exact Nat.le_refl _
  split at e <;> first | (cases e; done) | skip
  rename_i hh hhi
  have hhm : hh ≤ m := by
    split at hhi
    · exact bnd_le hhi
    · rename_i h1; simp only at hm; cases hm; exact bnd_le hhi
    · simp only at hm; cases hm; cases hhi; exact hn
    · cases hhi
  split at e <;> cases e
  rename_i l hl
  have : l ≤ hh := by
    split at hl
    · exact bnd_le hl
    · cases hl; exact Nat.zero_le _
  exact ⟨this, hhm, hmc⟩
theorem FOp.isSome {x y : Option AV} (h : FOp b A G x y) : y.isSome = x.isSome := by cases h <;> rfl
theorem lst_cut {es n : Nat} {cs : List AV} {j off : Nat} {ex : Bool} {l : List AV} {st : BSt} {l' : List AV} (hA : A j) (hG : G.get j = some (.cells l st)) (hr : rangeOf off (n * es) l = some l') (k : FVs b A G cs l')
    {x y c : Nat} (h1 : x ≤ y) (h2 : y ≤ n) (h3 : y - x ≤ c) : FV b A G (.lst es (y - x) ((cs.drop (x * es)).take ((y - x) * es))) (.sl j (off + x * es) (y - x) c es ex) := by
  have hle : x * es + (y - x) * es ≤ n * es := by rw [← Nat.add_mul]; exact Nat.mul_le_mul_right _ (by omega)
  have hlen := (rangeOf_iff.1 hr).1
  have hll : l'.length = n * es := by rw [(rangeOf_iff.1 hr).2, List.length_take, List.length_drop]; omega
  refine .lst _ _ _ j (off + x * es) c ex l st ((l'.drop (x * es)).take ((y - x) * es)) hA hG (rangeOf_in hr ?_) h3 ((k.drop _).take _)
  rw [rangeOf_iff]
  exact ⟨by omega, rfl⟩
theorem opSlice_r {es : Nat} {x x' : AV} (hx : FV b A G x x') {lo hi mx lo' hi' mx' : Option AV} (hl : FOp b A G lo lo') (hh : FOp b A G hi hi') (hm : FOp b A G mx mx') :
    SimP b A G (opSlice es x lo hi mx) (opSlice es x' lo' hi' mx') := by
  intro v e
  unfold opSlice at e
  split at e <;> first | (cases e; done) | skip
  · split at e <;> cases e
    rename_i r hr
    cases hx
    simp only [opSlice, bounds_r hl hh hm (Nat.le_refl 0) hr]
    exact ⟨_, rfl, .nilsl⟩
  · rename_i i off len cap es' ex
    split at e <;> first | (cases e; done) | skip
    rename_i hes
    unfold slOfO at e
    split at e <;> cases e
    rename_i r hr
    cases hx with
    | sl _ _ _ _ _ _ j hj =>
      simp only [opSlice, hes, if_true, bounds_r hl hh hm (Nat.le_refl cap) hr, slOfO, hm.isSome]
      have : (if mx.isSome = true then r.2.2 else cap) = r.2.2 := by
        split
        · rfl
        · rename_i hn
          cases mx with
          | some => exact absurd rfl hn
          | none =>
            unfold bounds at hr
            simp only at hr
            split at hr <;> first | (cases hr; done) | skip
            split at hr <;> cases hr
            rfl
      rw [this]
      exact ⟨_, rfl, .sl _ _ _ _ _ _ _ hj⟩
  · rename_i es' n cs
    split at e <;> first | (cases e; done) | skip
    rename_i hes
    have hes' := Nat.eq_of_beq_eq_true hes
    subst hes'
    unfold lstOf at e
    split at e <;> cases e
    rename_i r hr
    have hle := bounds_le (Nat.le_refl n) hr
    cases hx with
    | lst0 =>
      simp only [opSlice, bounds_r hl hh hm (Nat.le_refl 0) hr]
      refine ⟨_, rfl, ?_⟩
      have e1 : r.2.1 - r.1 = 0 := by omega
      rw [e1]
      simpa using FV.lst0 es
    | lstN _ j off cap ex l st hA hG hrg =>
      simp only [opSlice, hes, if_true, bounds_r hl hh hm (Nat.zero_le cap) hr, slOfO, slOf]
      have e1 : r.2.1 - r.1 = 0 := by omega
      have e2 : r.1 = 0 := by omega
      rw [e1, e2, Nat.zero_mul, Nat.add_zero, List.drop_zero, List.take_zero]
      exact ⟨_, rfl, .lst _ _ _ j off _ _ l st [] hA hG (by rw [Nat.zero_mul]; exact hrg) (Nat.zero_le _) .nil⟩
    | lst _ _ _ j off cap ex l st l' hA hG hrg hn k =>
      simp only [opSlice, hes, if_true, bounds_r hl hh hm hn hr, slOfO, slOf]
      refine ⟨_, rfl, lst_cut hA hG hrg k hle.1 (by omega) ?_⟩
      split <;> omega
theorem opSlarr_r (h : FH b A B H G) {n es : Nat} {x x' : AV} (hx : FV b A G x x') {lo hi mx lo' hi' mx' : Option AV} (hl : FOp b A G lo lo') (hh : FOp b A G hi hi') (hm : FOp b A G mx mx') :
    SimV b A B G (opSlarr n es x lo hi mx H) (opSlarr n es x' lo' hi' mx' G) := by
  intro v H2 e
  have bsame : ∀ {r}, bounds n n lo hi mx = some r → bounds n n lo' hi' mx' = some r := by
    intro r hr
    rw [bounds_r hl hh hm (Nat.le_refl n) hr]
    congr 1
    refine Prod.ext rfl (Prod.ext rfl ?_)
    simp only
    split
    · rfl
    · rename_i hn
      cases mx with
      | some => exact absurd rfl hn
      | none =>
        unfold bounds at hr
        simp only at hr
        split at hr <;> first | (cases hr; done) | skip
        split at hr <;> cases hr
        rfl
  unfold opSlarr at e
  split at e <;> first | (cases e; done) | skip
  · rename_i i off
    split at e <;> first | (cases e; done) | skip
    rename_i cs st hg
    split at e <;> first | (cases e; done) | skip
    rename_i hb
    cases hx with
    | ptr _ _ j hj =>
      obtain ⟨j', u, h1, _, _, h4, h5⟩ := h.obj _ _ hg rfl
      rw [hj] at h1; cases h1
      cases h5 with
      | cells _ y _ k =>
        simp only [opSlarr, h4, k.length, hb, if_true]
        refine SimP.sim h (fun v e => ?_) v H2 e
        unfold slOfO at e
        split at e <;> cases e
        rename_i r hr
        rw [bsame hr]
        exact ⟨_, rfl, .sl _ _ _ _ _ _ _ hj⟩
  · rename_i off cs
    split at e <;> first | (cases e; done) | skip
    rename_i hb
    have hb' := Nat.le_of_ble_eq_true hb
    cases hx with
    | fp _ _ j base m l st l' hA hG hr k =>
      have hl' := rangeOf_iff.1 hr
      have hll : l'.length = m := by rw [hl'.2, List.length_take, List.length_drop]; omega
      have hlen := k.length
      have : Nat.ble (base + off + n * es) l.length = true := Nat.ble_eq_true_of_le (by omega)
      simp only [opSlarr, hG, this, if_true]
      refine SimP.sim h (fun v e => ?_) v H2 e
      unfold lstOf at e
      split at e <;> cases e
      rename_i r hbr
      have hle := bounds_le (Nat.le_refl n) hbr
      rw [bsame hbr]
      refine ⟨_, rfl, ?_⟩
      have hrr : rangeOf (base + off) (n * es) l = some ((l'.drop off).take (n * es)) := rangeOf_in hr (rangeOf_iff.2 ⟨by omega, rfl⟩)
      have := lst_cut (ex := true) hA hG hrr ((k.drop off).take (n * es)) hle.1 (show r.2.1 ≤ n by omega) (c := r.2.2 - r.1) (by omega)
      rw [List.drop_take, List.take_take] at this
      have hm2 : min ((r.2.1 - r.1) * es) (n * es - r.1 * es) = (r.2.1 - r.1) * es := by
        refine Nat.min_eq_left ?_
        rw [← Nat.sub_mul]
        exact Nat.mul_le_mul_right _ (by omega)
      rw [hm2] at this
      exact this
theorem opSlstr_r {x x' : AV} (hx : FV b A G x x') {lo hi lo' hi' : Option AV} (hl : FOp b A G lo lo') (hh : FOp b A G hi hi') : SimP b A G (opSlstr x lo hi) (opSlstr x' lo' hi') := by
  intro v e
  unfold opSlstr at e ⊢
  split at e <;> first | (cases e; done) | skip
  rename_i s hs
  split at e <;> cases e
  rename_i r hr
  rw [asStr_r hx hs]
  simp only
  rw [bounds_r hl hh .none (Nat.le_refl _) hr]
  exact ⟨_, rfl, .str _⟩
theorem opFaddr_r {off : Nat} {x x' : AV} (hx : FV b A G x x') : SimP b A G (opFaddr off x) (opFaddr off x') := by
  intro v e
  unfold opFaddr at e
  split at e <;> cases e
  · cases hx with | ptr _ _ j hj => exact ⟨_, rfl, .ptr _ _ _ hj⟩
  · cases hx with
    | fp _ _ j base m l st l' hA hG hr k => refine ⟨_, rfl, ?_⟩; rw [Nat.add_assoc]; exact .fp _ _ j base m l st l' hA hG hr k
theorem opField_r {off n : Nat} {ag : Bool} {x x' : AV} (hx : FV b A G x x') : SimP b A G (opField off n ag x) (opField off n ag x') := by
  intro v e
  unfold opField at e ⊢
  split at e <;> first | (cases e; done) | skip
  rename_i cs hcs
  obtain ⟨cs', h1, h2⟩ := asA_r hx hcs
  rw [h1]
  simp only
  cases hr : rangeOf off n cs with
  | none => rw [hr] at e; cases e
  | some l =>
    rw [hr] at e
    obtain ⟨l', h3, h4⟩ := rangeOf_r h2 hr
    rw [h3]
    exact mkVal_r h4 e
theorem opIaddrS_r {es : Nat} {x x' i i' : AV} (hx : FV b A G x x') (hi : FV b A G i i') : SimP b A G (opIaddrS es x i) (opIaddrS es x' i') := by
  intro v e
  unfold opIaddrS at e
  split at e <;> first | (cases e; done) | skip
  · split at e <;> first | (cases e; done) | skip
    rename_i k hk
    split at e <;> cases e
    rename_i hb
    cases hx with
    | sl _ _ _ _ _ _ j hj => exact ⟨_, by simp only [opIaddrS, asN_r hi hk, hb, if_true], .ptr _ _ _ hj⟩
  · split at e <;> first | (cases e; done) | skip
    rename_i k hk
    split at e <;> cases e
    rename_i hb
    cases hx with
    | lst0 =>
      simp only [Bool.and_eq_true] at hb
      have := Nat.le_of_ble_eq_true hb.1
      omega
    | lstN =>
      simp only [Bool.and_eq_true] at hb
      have := Nat.le_of_ble_eq_true hb.1
      omega
    | lst _ _ _ j off cap ex l st l' hA hG hrg hn k =>
      refine ⟨_, by simp only [opIaddrS, asN_r hi hk, hb, if_true]; rfl, ?_⟩
      exact .fp _ _ j off _ l st l' hA hG hrg k
theorem opIaddrA_r {n es : Nat} {x x' i i' : AV} (hx : FV b A G x x') (hi : FV b A G i i') : SimP b A G (opIaddrA n es x i) (opIaddrA n es x' i') := by
  intro v e
  unfold opIaddrA at e
  split at e <;> first | (cases e; done) | skip
  · split at e <;> first | (cases e; done) | skip
    rename_i k hk
    split at e <;> cases e
    rename_i hb
    cases hx with
    | ptr _ _ j hj => exact ⟨_, by simp only [opIaddrA, asN_r hi hk, hb, if_true], .ptr _ _ _ hj⟩
  · split at e <;> first | (cases e; done) | skip
    rename_i k hk
    split at e <;> cases e
    rename_i hb
    cases hx with
    | fp _ _ j base m l st l' hA hG hr k =>
      refine ⟨_, by simp only [opIaddrA, asN_r hi hk, hb, if_true]; rfl, ?_⟩
      rw [Nat.add_assoc]; exact .fp _ _ j base m l st l' hA hG hr k
theorem opIdxA_r {len n : Nat} {ag : Bool} {x x' i i' : AV} (hx : FV b A G x x') (hi : FV b A G i i') : SimP b A G (opIdxA len n ag x i) (opIdxA len n ag x' i') := by
  intro v e
  unfold opIdxA at e ⊢
  split at e <;> first | (cases e; done) | skip
  rename_i cs hcs
  obtain ⟨cs', h1, h2⟩ := asA_r hx hcs
  split at e <;> first | (cases e; done) | skip
  rename_i k hk
  split at e <;> first | (cases e; done) | skip
  rename_i hb
  rw [h1, asN_r hi hk]
  simp only [hb, if_true]
  cases hr : rangeOf (k * n) n cs with
  | none => rw [hr] at e; cases e
  | some l =>
    rw [hr] at e
    obtain ⟨l', h3, h4⟩ := rangeOf_r h2 hr
    rw [h3]
    exact mkVal_r h4 e
theorem opIdxS_r {x x' i i' : AV} (hx : FV b A G x x') (hi : FV b A G i i') : SimP b A G (opIdxS x i) (opIdxS x' i') := by
  intro v e
  unfold opIdxS at e ⊢
  split at e <;> first | (cases e; done) | skip
  rename_i s hs
  split at e <;> first | (cases e; done) | skip
  rename_i k hk
  rw [asStr_r hx hs, asN_r hi hk]
  simp only
  split at e <;> cases e
  exact ⟨_, rfl, .int _ _⟩
theorem opExtract_r {i : Nat} {x x' : AV} (hx : FV b A G x x') : SimP b A G (opExtract x i) (opExtract x' i) := by
  intro v e
  unfold opExtract at e ⊢
  split at e <;> first | (cases e; done) | skip
  rename_i vs hvs
  obtain ⟨vs', h1, h2⟩ := asT_r hx hvs
  rw [h1]
  exact h2.get _ _ e
theorem opLen_r {st : Bool} {x x' : AV} (hx : FV b A G x x') : SimP b A G (opLen st x) (opLen st x') := by
  intro v e
  unfold opLen at e
  split at e <;> first | (cases e; done) | skip
  all_goals (split at e <;> cases e; rename_i hs)
  · cases hx; exact ⟨_, by simp only [opLen, hs, if_false]; try rfl, .int _ _⟩
  · cases hx; exact ⟨_, by simp only [opLen, hs, if_false]; try rfl, .int _ _⟩
  · cases hx <;> exact ⟨_, by simp only [opLen, hs, if_false]; try rfl, .int _ _⟩
  · cases hx; exact ⟨_, by simp only [opLen, hs, if_true], .int _ _⟩

/-! maps -/
theorem keyOk_ints {cs : List AV} (h : (cs.all fun | .int .i64 _ => true | _ => false) = true) : closedVs cs = true := by
  induction cs with
  | nil => rfl
  | cons v cs ih =>
    simp only [List.all_cons, Bool.and_eq_true] at h
    simp only [closedVs, Bool.and_eq_true]
    refine ⟨?_, ih h.2⟩
    have := h.1
    split at this
    · rfl
    · cases this
theorem keyOk_closed {kl : Nat} {k : AV} (h : keyOk kl k = true) : closedV k = true := by
  unfold keyOk at h
  split at h
  · rfl
  · simp only [Bool.and_eq_true] at h
    exact keyOk_ints h.2
  · cases h
theorem ints_back : ∀ {x y : List AV}, FVs b A G x y → (y.all fun | .int .i64 _ => true | _ => false) = true → x = y
  | _, _, .nil, _ => rfl
  | _, _, .cons v w x y h hs, e => by
    simp only [List.all_cons, Bool.and_eq_true] at e
    have h1 := e.1
    split at h1
    · cases h; rw [ints_back hs e.2]
    · cases h1
theorem keyOk_back {kl : Nat} {k k' : AV} (hk : FV b A G k k') (h : keyOk kl k' = true) : k = k' := by
  unfold keyOk at h
  split at h
  · cases hk; rfl
  · simp only [Bool.and_eq_true] at h
    cases hk with
    | agg x _ hx => rw [ints_back hx h.2]
  · cases h
theorem avEq_key {kl : Nat} {k k2 k2' : AV} (hk : keyOk kl k = true) (h2 : FV b A G k2 k2') : avEq k k2' = avEq k k2 := by
  cases e : avEq k k2 with
  | true =>
    obtain rfl := avEq_eq e
    rw [FV.closed_eq h2 (keyOk_closed hk)]; exact e
  | false =>
    cases e2 : avEq k k2' with
    | false => rfl
    | true =>
      obtain rfl := avEq_eq e2
      obtain rfl := keyOk_back h2 hk
      rw [e2] at e; cases e
theorem findK_r {kl : Nat} {k : AV} (hk : keyOk kl k = true) : ∀ {x y : List (AV × AV × Nat)}, FE b A G x y → (findK k x = none ∧ findK k y = none) ∨ ∃ v w, findK k x = some v ∧ findK k y = some w ∧ FV b A G v w
  | _, _, .nil => .inl ⟨rfl, rfl⟩
  | _, _, .cons k1 v k1' v' n r r' h1 hv hr => by
    simp only [findK, avEq_key hk h1]
    split
    · exact .inr ⟨_, _, rfl, rfl, hv⟩
    · exact findK_r hk hr
theorem setK_r {kl : Nat} {k v w : AV} (hk : keyOk kl k = true) (hv : FV b A G v w) (ck : Nat) : ∀ {x y : List (AV × AV × Nat)}, FE b A G x y → (setK k w ck y).2 = (setK k v ck x).2 ∧ FE b A G (setK k v ck x).1 (setK k w ck y).1
  | _, _, .nil => ⟨rfl, .cons _ _ _ _ _ _ _ (FV.closed (keyOk_closed hk)) hv .nil⟩
  | _, _, .cons k1 u k1' u' n r r' h1 hu hr => by
    simp only [setK, avEq_key hk h1]
    split
    · exact ⟨rfl, .cons _ _ _ _ _ _ _ h1 hv hr⟩
    · obtain ⟨e1, e2⟩ := setK_r hk hv ck hr
      cases h1' : setK k v ck r with
      | mk a1 a2 =>
        cases h2' : setK k w ck r' with
        | mk c1 c2 =>
          rw [h1', h2'] at e1 e2
          exact ⟨e1, .cons _ _ _ _ _ _ _ h1 hu e2⟩
theorem opLookup_r (h : FH b A B H G) {kl : Nat} {z : AV} (hz : closedV z = true) {ok : Bool} {m m' k k' : AV} (hm : FV b A G m m') (hk : FV b A G k k') : SimV b A B G (opLookup kl z ok m k H) (opLookup kl z ok m' k' G) := by
  intro v H2 e
  unfold opLookup at e
  split at e <;> first | (cases e; done) | skip
  rename_i hok
  obtain rfl := FV.closed_eq hk (keyOk_closed hok)
  have fd : ∀ {o o' : Option AV}, (o = none ∧ o' = none) ∨ (∃ v w, o = some v ∧ o' = some w ∧ FV b A G v w) → FV b A G (found z ok o) (found z ok o') := by
    rintro o o' (⟨rfl, rfl⟩ | ⟨v, w, rfl, rfl, hv⟩)
    · simp only [found]
      split
      · exact .tup _ _ (.cons _ _ _ _ (FV.closed hz) (.cons _ _ _ _ (.bool _) .nil))
      · exact FV.closed hz
    · simp only [found]
      split
      · exact .tup _ _ (.cons _ _ _ _ hv (.cons _ _ _ _ (.bool _) .nil))
      · exact hv
  split at e <;> first | (cases e; done) | skip
  · cases e
    cases hm
    exact ⟨_, b, G, by simp only [opLookup, hok, if_true], h, Ke.refl .., fd (.inl ⟨rfl, rfl⟩)⟩
  · rename_i i
    cases hm with
    | map _ j hj =>
      split at e <;> first | (cases e; done) | skip
      rename_i kl' es ck hg
      split at e <;> cases e
      rename_i hkl
      obtain ⟨j', u, h1, _, _, h4, h5⟩ := h.obj _ _ hg rfl
      rw [hj] at h1; cases h1
      cases h5 with
      | map _ _ y _ hy => exact ⟨_, b, G, by simp only [opLookup, hok, if_true, h4, hkl], h, Ke.refl .., fd (findK_r hok hy)⟩
theorem opMapset_r (h : FH b A B H G) {kl : Nat} {m m' k k' v v' : AV} (hm : FV b A G m m') (hk : FV b A G k k') (hv : FV b A G v v') : SimV b A B G (opMapset kl m k v H) (opMapset kl m' k' v' G) := by
  intro r H2 e
  unfold opMapset at e
  split at e <;> first | (cases e; done) | skip
  rename_i hok
  obtain rfl := FV.closed_eq hk (keyOk_closed hok)
  split at e <;> first | (cases e; done) | skip
  rename_i i
  cases hm with
  | map _ j hj =>
    split at e <;> first | (cases e; done) | skip
    rename_i kl' es ck hg
    split at e <;> cases e
    rename_i hkl
    obtain ⟨j', u, h1, h2, h3, h4, h5⟩ := h.obj _ _ hg rfl
    rw [hj] at h1; cases h1
    cases h5 with
    | map _ _ y _ hy =>
      obtain ⟨g1, g2⟩ := setK_r hok hv ck hy
      refine ⟨.undef, b, putMap j kl ck G (setK k' v' ck y), by simp only [opMapset, hok, if_true, h4, hkl], ?_, ?_, .undef⟩
      · unfold putMap
        rw [g1]
        split
        · exact h.put hj h2 h3 fun _ => .map _ _ _ _ (g2.mono (FH.put_ke h2 h3 _).mo)
        · exact h.put hj h2 h3 fun _ => .map _ _ _ _ (g2.mono (FH.put_ke h2 h3 _).mo)
      · unfold putMap
        split
        · exact FH.put_ke h2 h3 _
        · exact FH.put_ke h2 h3 _

/-! append, copy, clear -/
theorem lenOf_r {x x' : AV} (hx : FV b A G x x') {n : Nat} (e : lenOf x = some n) : lenOf x' = some n := by
  cases hx <;> simp only [lenOf] at e ⊢ <;> first | exact e | cases e
theorem firstCells_r (h : FH b A B H G) {es n : Nat} {x x' : AV} (hx : FV b A G x x') {l : List AV} (e : firstCells H es n x = some l) : ∃ l', firstCells G es n x' = some l' ∧ FVs b A G l l' := by
  unfold firstCells at e
  split at e <;> first | (cases e; done) | skip
  · split at e <;> cases e
    rename_i hn
    cases hx
    exact ⟨[], by simp only [firstCells, hn, if_true], .nil⟩
  · split at e <;> first | (cases e; done) | skip
    rename_i hn
    cases hx with
    | sl _ _ _ _ _ _ j hj =>
      obtain ⟨l', h1, h2⟩ := load_r h hj e
      exact ⟨l', by simp only [firstCells, hn, if_true, h1], h2⟩
  · split at e <;> first | (cases e; done) | skip
    rename_i es' m cs hn
    simp only [Bool.and_eq_true] at hn
    have hn1 := Nat.le_of_ble_eq_true hn.1
    have hn2 := Nat.eq_of_beq_eq_true hn.2
    subst hn2
    cases hx with
    | lst0 =>
      have : n = 0 := by omega
      subst this
      simp [rangeOf, dropN, takeN] at e
      subst e
      exact ⟨[], by simp [firstCells], .nil⟩
    | lstN _ j off cap ex lc st hA hG hrg =>
      have : n = 0 := by omega
      subst this
      simp [rangeOf, dropN, takeN] at e
      subst e
      exact ⟨[], by simp [firstCells, AHeap.load, hG, hrg], .nil⟩
    | lst _ _ _ j off cap ex lc st l' hA hG hrg hcap k =>
      obtain ⟨l2, h1, h2⟩ := rangeOf_r k e
      have := rangeOf_in hrg h1
      rw [Nat.add_zero] at this
      exact ⟨l2, by simp only [firstCells, hn.1, hn.2, Bool.and_self, if_true, AHeap.load, hG, this], h2⟩
theorem appNew_r (h : FH b A B H G) {n es by_ : Nat} {cs cs' : List AV} (hc : FVs b A G cs cs') : SimV b A B G (appNew n es by_ cs H) (appNew n es by_ cs' G) := by
  intro v H2 e
  unfold appNew at e
  split at e <;> first | (cases e; done) | skip
  rename_i hk
  simp only [appNew, hk, if_true]
  exact lay_r h hc (vf := fun i => .sl i 0 n n es false) (fun i j b2 hb => .sl _ _ _ _ _ _ _ hb) v H2 e
theorem appTo_r (h : FH b A B H G) {es by_ n : Nat} {s s' : AV} (hs : FV b A G s s') {new new' : List AV} (hn : FVs b A G new new') : SimV b A B G (appTo es by_ s n new H) (appTo es by_ s' n new' G) := by
  intro v H2 e
  unfold appTo at e
  split at e <;> first | (cases e; done) | skip
  · cases hs
    split at e
    · rename_i h0
      cases e
      exact ⟨_, b, G, by simp only [appTo, h0, if_true], h, Ke.refl .., .nilsl⟩
    · rename_i h0
      simp only [appTo, h0, if_false]
      exact appNew_r h hn v H2 e
  · rename_i i off len cap es' ex
    cases hs with
    | sl _ _ _ _ _ _ j hj =>
      split at e <;> first | (cases e; done) | skip
      rename_i hes
      split at e
      · rename_i hle
        simp only [appTo, hes, hle, if_true]
        unfold appIn at e
        split at e
        · cases hn
          cases e
          exact ⟨_, b, G, rfl, h, Ke.refl .., .sl _ _ _ _ _ _ _ hj⟩
        · split at e <;> cases e
          rename_i _ hnn H3 hst
          obtain ⟨G2, g1, g2, g3⟩ := store_r h hj hn hst
          cases hn with
          | nil => exact (hnn rfl).elim
          | cons => exact ⟨_, b, G2, by simp only [appIn, g1], g2, g3, .sl _ _ _ _ _ _ _ hj⟩
      · rename_i hle
        split at e <;> first | (cases e; done) | skip
        rename_i cs st hg
        obtain ⟨j', u, h1, h2, h3, h4, h5⟩ := h.obj _ _ hg rfl
        rw [hj] at h1; cases h1
        cases h5 with
        | cells _ y _ k =>
          simp only [appTo, hes, hle, if_true, h4]
          unfold appOut at e
          split at e <;> first | (cases e; done) | skip
          rename_i old hold
          obtain ⟨old', g1, g2⟩ := rangeOf_r k hold
          simp only [Bool.false_eq_true, if_false, appOut, g1]
          split at e
          · exact appNew_r h (g2.append hn) v H2 e
          · split at e <;> first | (cases e; done) | skip
            split at e <;> first | (cases e; done) | skip
            rename_i hlc
            simp only [k.length, hlc, if_true]
            have ke := FH.put_ke (b := b) (G := G) h2 h3 .gone
            obtain ⟨w, b2, G2, q1, q2, q3, q4⟩ := appNew_r (h.gone hj h2 h3 .gone) ((g2.append hn).mono ke.mo) v H2 e
            exact ⟨w, b2, G2, q1, q2, ke.trans q3, q4⟩
theorem append_r (h : FH b A B H G) {es by_ : Nat} {s s' x x' : AV} (hs : FV b A G s s') (hx : FV b A G x x') : SimV b A B G (appendOp es by_ s x H) (appendOp es by_ s' x' G) := by
  intro v H2 e
  unfold appendOp at e
  split at e <;> first | (cases e; done) | skip
  rename_i n hn
  split at e <;> first | (cases e; done) | skip
  rename_i new hnew
  split at e <;> first | (cases e; done) | skip
  rename_i hc
  obtain ⟨new', h1, h2⟩ := firstCells_r h hx hnew
  simp only [appendOp, lenOf_r hx hn, h1, h2.allCells, hc, if_true]
  exact appTo_r h hs h2 v H2 e
theorem copy_r (h : FH b A B H G) {es : Nat} {d d' s s' : AV} (hd : FV b A G d d') (hs : FV b A G s s') : SimV b A B G (opCopy es d s H) (opCopy es d' s' G) := by
  intro v H2 e
  unfold opCopy at e
  split at e <;> first | (cases e; done) | skip
  rename_i n m hn hm
  split at e <;> first | (cases e; done) | skip
  rename_i cs hcs
  obtain ⟨cs', h1, h2⟩ := firstCells_r h hs hcs
  simp only [opCopy, lenOf_r hs hn, lenOf_r hd hm, h1]
  unfold copyTo at e
  split at e
  · cases h2
    cases e
    exact ⟨_, b, G, rfl, h, Ke.refl .., .int _ _⟩
  · rename_i hne
    split at e <;> first | (cases e; done) | skip
    cases hd with
    | sl _ _ _ _ _ _ j hj =>
      split at e <;> first | (cases e; done) | skip
      rename_i hc
      split at e <;> cases e
      rename_i H3 hst
      obtain ⟨G2, g1, g2, g3⟩ := store_r h hj h2 hst
      rw [← h2.allCells] at hc
      cases h2 with
      | nil => exact absurd rfl hne
      | cons => exact ⟨_, b, G2, by simp only [copyTo, hc, if_true, g1], g2, g3, .int _ _⟩
theorem clear_r (h : FH b A B H G) {z : List AV} (hz : closedVs z = true) {x x' : AV} (hx : FV b A G x x') : SimV b A B G (opClear z x H) (opClear z x' G) := by
  intro v H2 e
  unfold opClear at e
  split at e <;> first | (cases e; done) | skip
  · cases e; cases hx
    exact ⟨_, b, G, rfl, h, Ke.refl .., .undef⟩
  · rename_i i off len cap es' ex
    cases hx with
    | sl _ _ _ _ _ _ j hj =>
      split at e
      · rename_i h0
        cases e
        exact ⟨_, b, G, by simp only [opClear, h0, if_true], h, Ke.refl .., .undef⟩
      · rename_i h0
        split at e <;> first | (cases e; done) | skip
        rename_i hc
        unfold retH at e
        split at e <;> cases e
        rename_i hst
        obtain ⟨G2, g1, g2, g3⟩ := store_r h hj (FVs.closed (repl_closed hz len)) hst
        exact ⟨_, b, G2, by simp only [opClear, h0, hc, if_true, g1, retH]; rfl, g2, g3, .undef⟩
theorem maxI_r {x y x' y' : AV} (hx : FV b A G x x') (hy : FV b A G y y') : SimP b A G (maxI x y) (maxI x' y') := by
  intro v e
  unfold maxI at e
  split at e <;> cases e
  cases hx; cases hy
  exact ⟨_, rfl, .int _ _⟩
theorem minI_r {x y x' y' : AV} (hx : FV b A G x x') (hy : FV b A G y y') : SimP b A G (minI x y) (minI x' y') := by
  intro v e
  unfold minI at e
  split at e <;> cases e
  cases hx; cases hy
  exact ⟨_, rfl, .int _ _⟩
theorem foldV_r {f : AV → AV → Option AV} (hf : ∀ {x y x' y'}, FV b A G x x' → FV b A G y y' → SimP b A G (f x y) (f x' y')) : ∀ {l l' : List AV}, FVs b A G l l' → ∀ {v v'}, FV b A G v v' → SimP b A G (foldV f v l) (foldV f v' l')
  | _, _, .nil, v, v', hv => .some hv
  | _, _, .cons x x' l l' h hs, v, v', hv => by
    intro r e
    simp only [foldV] at e ⊢
    split at e <;> first | (cases e; done) | skip
    rename_i u hu
    obtain ⟨u', h1, h2⟩ := hf hv h u hu
    rw [h1]
    exact foldV_r hf hs h2 r e
theorem opFold_r {f : AV → AV → Option AV} (hf : ∀ {x y x' y'}, FV b A G x x' → FV b A G y y' → SimP b A G (f x y) (f x' y')) {l l' : List AV} (h : FVs b A G l l') : SimP b A G (opFold f l) (opFold f l') := by
  cases h with
  | nil => exact .none
  | cons v w x y h hs => exact foldV_r hf hs h

/-! all -/
section
variable {e e' : AX → AV} (he : ∀ x, okX x = true → FV b A G (e x) (e' x))
include he
theorem evs_r : ∀ {l : List AX}, okXs l = true → FVs b A G (evs e l) (evs e' l)
  | [], _ => .nil
  | x :: r, h => by simp only [okXs, Bool.and_eq_true] at h; exact .cons _ _ _ _ (he x h.1) (evs_r h.2)
theorem optE_r {o : Option AX} (h : okO o = true) : FOp b A G (optE e o) (optE e' o) := by
  cases o with
  | none => exact .none
  | some x => exact .some _ _ (he x h)
theorem parts_r : ∀ {l : List (Nat × Nat × AX)}, okPs l = true → FPs b A G (parts e l) (parts e' l)
  | [], _ => .nil
  | (a, c, x) :: r, h => by simp only [okPs, Bool.and_eq_true] at h; exact .cons _ _ _ _ _ _ (he x h.1) (parts_r h.2)
theorem evalOp_r (h : FH b A B H G) {op : AOp} (ok : okOp op = true) : SimV b A B G (evalOp e op H) (evalOp e' op G) := by
  cases op <;> simp only [okOp, Bool.and_eq_true] at ok <;> simp only [evalOp]
  case bad => exact .none
  case mov x => exact (SimP.some (he x ok)).sim h
  case pick c x y =>
    intro v H2 eq
    unfold opPick at eq ⊢
    split at eq <;> cases eq
    · rename_i hb
      rw [asB_r (he c ok.1) hb]
      exact ⟨_, b, G, rfl, h, Ke.refl .., he x ok.2.1⟩
    · rename_i hb
      rw [asB_r (he c ok.1) hb]
      exact ⟨_, b, G, rfl, h, Ke.refl .., he y ok.2.2⟩
  case alloc cs => exact lay_r h (FVs.closed ok) (vf := fun i => .ptr i 0) (fun i j b2 hb => .ptr _ _ _ hb)
  case box x => exact opBox_r h (he x ok)
  case build z ps => exact opBuild_r h ok.1 (parts_r he ok.2)
  case bslice es n z ps => exact opBslice_r h ok.1 (parts_r he ok.2)
  case load x ag n => exact opLoad_r h (he x ok)
  case store x v n => exact opStore_r h (he x ok.1) (he v ok.2)
  case nilchk x => exact opNilchk_r h (he x ok)
  case bin op x y => exact (bin_r (he x ok.1) (he y ok.2)).sim h
  case eqv n k x y => exact (opEqv_r (he x ok.1) (he y ok.2)).sim h
  case un op x => exact (unop_r (he x ok)).sim h
  case convI k x => exact (convI_r (he x ok)).sim h
  case mkif t x => exact (mkif_r (he x ok)).sim h
  case mkfn f x y => exact (SimP.some (FV.fn f _ _ _ _ (evs_r he ok.1) (evs_r he ok.2))).sim h
  case mkmap kl =>
    intro v H2 eq
    cases eq
    exact ⟨_, addB b H.nx G.nx, _, rfl, h.push fun _ => .map _ _ _ _ .nil, h.push_ke _, .map _ _ (addB_same ..)⟩
  case mkslice es by_ z l c => exact opMkslice_r h ok.1 (he l ok.2.1) (he c ok.2.2)
  case slice es x lo hi mx => exact (opSlice_r (he x ok.1) (optE_r he ok.2.1) (optE_r he ok.2.2.1) (optE_r he ok.2.2.2)).sim h
  case slarr n es x lo hi mx => exact opSlarr_r h (he x ok.1) (optE_r he ok.2.1) (optE_r he ok.2.2.1) (optE_r he ok.2.2.2)
  case slstr x lo hi => exact (opSlstr_r (he x ok.1) (optE_r he ok.2.1) (optE_r he ok.2.2)).sim h
  case faddr off x => exact (opFaddr_r (he x ok)).sim h
  case field off n ag x => exact (opField_r (he x ok)).sim h
  case iaddrS es x i => exact (opIaddrS_r (he x ok.1) (he i ok.2)).sim h
  case iaddrA n es x i => exact (opIaddrA_r (he x ok.1) (he i ok.2)).sim h
  case idxA len n ag x i => exact (opIdxA_r (he x ok.1) (he i ok.2)).sim h
  case idxS x i => exact (opIdxS_r (he x ok.1) (he i ok.2)).sim h
  case lookup kl z o m k => exact opLookup_r h ok.1 (he m ok.2.1) (he k ok.2.2)
  case mapset kl m k v => exact opMapset_r h (he m ok.1) (he k ok.2.1) (he v ok.2.2)
  case extract x i => exact (opExtract_r (he x ok)).sim h
  case len st x => exact (opLen_r (he x ok)).sim h
  case append es by_ s x => exact append_r h (he s ok.1) (he x ok.2)
  case copy es d s => exact copy_r h (he d ok.1) (he s ok.2)
  case clear z x => exact clear_r h ok.1 (he x ok.2)
  case mx xs => exact (opFold_r maxI_r (evs_r he ok)).sim h
  case mn xs => exact (opFold_r minI_r (evs_r he ok)).sim h
  case call => exact .none
  case callv => exact .none
end
theorem FT.ev {T T' : Fr} (h : FT b A G T T') : ∀ x, okX x = true → FV b A G (AM.ev T x) (AM.ev T' x)
  | .t p, _ => h p
  | .c v, e => FV.closed e
end
end Go.AM
