/- Results that lie in cells; a range over a function; the contract of a function that holds one. -/
import Derived.RangeFuncLeaves
import Derived.RangeFuncRecord
import Derived.Test.YtebbgoklldmkiaaGreatQ6
namespace Go.Xe
open Go

def resH (L : Lay) (h : Hp) (ρ : Env) : List ResultVar → List Value → Prop
  | [], [] => True
  | .tmp t :: l, v :: vs => ρ t = v ∧ resH L h ρ l vs
  | .cell a T :: l, v :: vs => (∃ b o i, ρ a = .pointer (some ⟨b, o, none⟩) ∧ L T = some i ∧ Ld h b o i v) ∧ resH L h ρ l vs
  | _, _ => False

def tupV : List Value → Value
  | [v] => v
  | l => .tuple l.toArray

def finMs (L : Lay) (rs : List ResultVar) (R : Value → Hp → Prop) (ρ : Env) : List Deferred → Hp → Prop
  | [], h => ∃ vs, resH L h ρ rs vs ∧ R (tupV vs) h
  | d :: ds, h => ∃ D, d = { target := .collected D, args := #[] } ∧ h[D]? = some (.deferred (some [])) ∧ ∀ h', Upd h h' D (.deferred none) → finMs L rs R ρ ds h'

def finM (L : Lay) (rs : List ResultVar) (R : Value → Hp → Prop) : Exit → St → Hp → Prop
  | .ret, s, h => finMs L rs R s.ρ s.ds h
  | .normal, s, h => finMs L rs R s.ρ s.ds h
  | _, _, _ => False

theorem putObj_upd (w : World) (r : Nat) (o : Obj) (hr : r < w.heap.size) : Upd w.heap (w.putObj r o).heap r o := ⟨World.putObj_size, World.putObj_heap_same hr, fun _ hj => World.putObj_heap_other hj⟩

section
variable {L : Lay} {P : Program} {c : World} {n : Nat} {h : Hp} {Q : Exit → St → Hp → Prop}

theorem results_cells (hL : LayOk L P) (fn : Func) (tmps : Array Value) (ρ : Env) (hρ : ∀ t, tmps.getD t undef = ρ t) (w : World) (vs : List Value) (hr : resH L w.heap ρ fn.results.toList vs) :
    (results fn tmps).run P w = .ok (tupV vs) w := by
  have key : ∀ (F : ResultVar → Sem Value) (l : List ResultVar) (vs : List Value), (∀ t, F (.tmp t) = pure (tmps.getD t undef)) → (∀ a T, F (.cell a T) = do loadVar T (← asAddr (tmps.getD a undef))) →
      resH L w.heap ρ l vs → (l.mapM F).run P w = .ok vs w := by
    intro F l
    induction l with
    | nil => intro vs _ _ hv; cases vs with | nil => rfl | cons _ _ => exact hv.elim
    | cons r l ih =>
      intro vs h1 h2 hv
      cases vs with
      | nil => cases r <;> exact hv.elim
      | cons v vs =>
        cases r with
        | tmp t =>
          obtain ⟨hv, hr⟩ := hv
          simp only [List.mapM_cons, Sem.run_bind, h1, Sem.run_pure, Result.andThen_ok, ih vs h1 h2 hr, hρ, hv]
        | cell a T =>
          obtain ⟨⟨b, o, i, ha, hi, hld⟩, hr⟩ := hv
          simp only [List.mapM_cons, Sem.run_bind, h2, hρ, ha, asAddr, Sem.run_pure, Result.andThen_ok, run_loadVar hL hi hld, ih vs h1 h2 hr]
  unfold results
  rw [Array.mapM_eq_mapM_toList]
  simp only [Sem.run_bind, Sem.run_map]
  rw [key _ fn.results.toList vs (fun _ => rfl) (fun _ _ => rfl) hr]
  simp only [Result.andThen_ok, Sem.run_pure]
  congr 1
  cases vs with
  | nil => rfl
  | cons v l => cases l <;> rfl

theorem leaves_of (hL : LayOk L P) {fn : Func} {R : Value → Hp → Prop} (tmps : Array Value) (ρ : Env) (hρ : ∀ t, tmps.getD t undef = ρ t) :
    ∀ (ds : List Deferred) (w : World), Ctx c w → finMs L fn.results.toList R ρ ds w.heap → LeavesInM Fence.wide 0 P fn tmps (Ret fun v w' => Ctx c w' ∧ R v w'.heap) ds .returning w
  | [], w, hc, hf => by
    obtain ⟨vs, h1, h2⟩ := hf
    exact ⟨_, results_cells hL fn tmps ρ hρ w vs h1, hc, h2⟩
  | d :: ds, w, hc, hf => by
    obtain ⟨D, rfl, hD, hf⟩ := hf
    refine ⟨by simp, .inl ⟨D, _, rfl, run_takeDeferred hD, ?_⟩⟩
    exact leaves_of hL tmps ρ hρ ds _ ⟨hc.os, hc.tape, hc.output⟩ (hf _ (putObj_upd w D _ (Array.getElem?_eq_some_iff.1 hD).1))

theorem call_ofM (hL : LayOk L P) {f : Nat} {fn : Func} (N : Nat) (hf : P.funcs[f]? = some fn) (hN : fn.ntmps = N) (hb : fn.body.isSome = true) (hname : (fn.name == "runtime.NumGoroutine") = false)
    {args : Array Value} (hsz : Nat.ble args.size N = true) {R : Value → Hp → Prop}
    (hw : (pe L N (bodyOf fn) ⟨envOf args.toList, []⟩ X.done).wp c P none N h (finM L fn.results.toList R)) : Call c P f args h R := by
  subst hN
  refine ⟨fun as w => ?_, fun w hh hc => ?_⟩
  · have hb' : fn.body.isNone = false := by cases hx : fn.body <;> simp_all
    simp only [callFunc, Sem.run_bind, run_program, Result.andThen_ok, hf, hname, hb', Bool.false_eq_true, if_false, Sem.run_pure]
  · obtain ⟨cd, hcd⟩ := Option.isSome_iff_exists.1 hb
    subst hh
    have hbo : bodyOf fn = cd := by simp [bodyOf, hcd]
    rw [hbo] at hw
    refine (callsIn_wide (n := 0)).1 (callsIn_of_wp_marks hf hcd trivial (wpIn_mono (pe_sound hL cd _ X.done _ _ w hw ?_ hc) ?_))
    · refine ⟨?_, rfl, fun t => envOf_getD args _ t⟩
      have := Nat.le_of_ble_eq_true hsz
      simp only [Array.size_append, Array.size_replicate]
      omega
    · rintro e a' w' ⟨s', g1, g2, g3⟩
      cases e with
      | ret =>
        have := leaves_of (c := c) hL (fn := fn) (R := R) a'.tmps s'.ρ g1.2.2 s'.ds w' g2 g3
        rw [← g1.2.1] at this
        exact this
      | normal =>
        have := leaves_of (c := c) hL (fn := fn) (R := R) a'.tmps s'.ρ g1.2.2 s'.ds w' g2 g3
        rw [← g1.2.1] at this
        exact this
      | _ => exact g3.elim

theorem finM_at {rs : List ResultVar} {R : Value → Hp → Prop} {s : St} (vs : List Value) (hds : s.ds = []) (hr : resH L h s.ρ rs vs) (hR : R (tupV vs) h) : finM L rs R .ret s h := by
  show finMs L rs R s.ρ s.ds h
  rw [hds]
  exact ⟨vs, hr, hR⟩
theorem finM_n {rs : List ResultVar} {R : Value → Hp → Prop} {s : St} (vs : List Value) (hds : s.ds = []) (hr : resH L h s.ρ rs vs) (hR : R (tupV vs) h) : finM L rs R .normal s h := finM_at vs hds hr hR
theorem finM_mark {rs : List ResultVar} {R : Value → Hp → Prop} {s : St} (D : Nat) (hds : s.ds = [{ target := .collected D, args := #[] }]) (hD : h[D]? = some (.deferred (some [])))
    (hk : ∀ h', Upd h h' D (.deferred none) → ∃ vs, resH L h' s.ρ rs vs ∧ R (tupV vs) h') : finM L rs R .ret s h := by
  show finMs L rs R s.ρ s.ds h
  rw [hds]
  exact ⟨D, rfl, hD, hk⟩

/-- one call of yield -/
def Yield (c : World) (P : Program) (l : Nat) (args : Array Value) (h : Hp) (R : Value → Hp → Prop) : Prop :=
  ∀ w, w.heap = h → Ctx c w → ∃ f tmps as bd, (Instr.yield l args).run P w = .ok (.round l f tmps as bd) w ∧ RoundIn (Fe none) 0 P l f tmps as bd w (Ret fun v w' => Ctx c w' ∧ R v w'.heap)

theorem wp_round {ro : Option Nat} {l : Nat} {args : Array Value} {k : Value → X} {R : Value → Hp → Prop} (hy : Yield c P l args h R) (hk : ∀ v h', R v h' → (k v).wp c P ro n h' Q) :
    (X.round l args k).wp c P ro n h Q := fun w hh hc => by
  obtain ⟨f, tmps, as, bd, h1, h2⟩ := hy w hh hc
  refine ⟨f, tmps, as, bd, h1, RoundIn.mono (F := Fe none) h2 ?_⟩
  intro e w' he
  cases e with
  | returned v => exact ⟨he.1, hk _ _ he.2⟩
  | _ => exact he.elim

/-- the temporaries of a round: the loop's variables are set -/
def setP (ρ : Env) : List Nat → List Value → Env
  | p :: ps, v :: vs => setP (upd ρ p v) ps vs
  | _, _ => ρ

theorem setP_rel (n : Nat) : ∀ (ps : List Nat) (vs : List Value) (T : Array Value) (ρ : Env), T.size = n → (∀ t, T.getD t undef = ρ t) → (ps.all fun p => Nat.blt p n) = true →
    ((ps.zip vs).foldl (fun t (p : Nat × Value) => t.setIfInBounds p.1 p.2) T).size = n ∧ ∀ t, ((ps.zip vs).foldl (fun t (p : Nat × Value) => t.setIfInBounds p.1 p.2) T).getD t undef = setP ρ ps vs t
  | [], vs, T, ρ, h1, h2, _ => by cases vs <;> exact ⟨h1, h2⟩
  | p :: ps, [], T, ρ, h1, h2, _ => ⟨h1, h2⟩
  | p :: ps, v :: vs, T, ρ, h1, h2, hp => by
    simp only [List.all_cons, Bool.and_eq_true] at hp
    have hpn : p < n := by simpa [Nat.blt_eq] using hp.1
    refine setP_rel n ps vs (T.setIfInBounds p v) (upd ρ p v) (by simp [h1]) (fun t => ?_) hp.2
    simp only [upd]
    by_cases ht : t = p
    · subst ht; simp [h1, hpn]
    · have : Nat.beq t p = false := by cases hx : Nat.beq t p with | false => rfl | true => exact absurd (Nat.eq_of_beq_eq_true hx) ht
      rw [this, cond_false, ← h2 t]
      simp [Array.getElem?_setIfInBounds_ne (Ne.symm ht)]

/-- A RANGE OVER A FUNCTION whose body neither breaks nor returns. D: the block of the rounds' deferred calls; l: the loop's record. I i: i elements have come. -/
theorem wp_rangeF (hL : LayOk L P) {g : Operand} {ps : Array Tmp} {as bd : Code} {s : St} {k : Exit → St → X} {gf : Nat} {cap : Array Value} (hg : ev s.ρ g = .func (.func gf) #[] cap)
    (hps : (ps.toList.all fun p => Nat.blt p n) = true) (xs : List (List Value)) (hxs : ∀ x, x ∈ xs → x.length = ps.size) (I : Nat → Hp → Prop)
    (hI : ∀ i h1 h2 o, I i h1 → Upd h1 h2 (h.size + 1) o → I i h2)
    (h0 : ∀ h1, Chg [] h h1 → h1.size = h.size + 2 → I 0 h1)
    (hit : ∀ (J : Nat → Hp → Prop) (h1 : Hp), Chg [] h h1 → (∀ i h, J i h → I i h) → (∀ i x h, xs[i]? = some x → J i h → Yield c P (h1.size - 1) x.toArray h fun v h' => v = .bool true ∧ J (i + 1) h') → J 0 h1 →
      Call c P gf (#[.func (.yield (h1.size - 1)) #[] #[]] ++ cap) h1 fun _ h' => J xs.length h')
    (hbody : ∀ i x h1 d, xs[i]? = some x → I i h1 → h1[h.size + 1]? = some (.loop d) → h1[h.size]? = some (.deferred (some [])) →
      (pe L n as ⟨setP s.ρ ps.toList x, []⟩ X.done).wp c P (some (h.size + 1)) n h1 fun e s1 h2 => e = .normal ∧ s1.ds = [] ∧ h2[h.size + 1]? = h1[h.size + 1]? ∧
        ∀ h3 d', Upd h2 h3 (h.size + 1) (.loop d') → (pe L n bd s1 X.done).wp c P (some (h.size + 1)) n h3 fun e _ h4 => e = .normal ∧ I (i + 1) h4 ∧ h4[h.size + 1]? = h3[h.size + 1]? ∧ h4[h.size]? = some (.deferred (some [])))
    (hk : ∀ h', I xs.length h' → h'[h.size]? = some (.deferred (some [])) → (k .normal ⟨s.ρ, { target := .collected h.size, args := #[] } :: s.ds⟩).wp c P none n h' Q) :
    (X.rangeF g ps as bd s k).wp c P none n h Q := by
  intro w a hh hc ha
  subst hh
  refine wpIn_rangeFunc ?_
  intro fn _
  obtain ⟨rec, hrec⟩ : ∃ rec : LoopState → Option Code → Loop, rec = fun st pe => { state := st, pending := pe, fn, tmps := a.tmps, params := ps, assign := as, body := bd, defers := w.heap.size } := ⟨_, rfl⟩
  obtain ⟨W1, hW1⟩ : ∃ W1, (w.alloc (.deferred (some []))).alloc (.loop (rec .ready none)) = W1 := ⟨_, rfl⟩
  have hsz : W1.heap.size = w.heap.size + 2 := by rw [← hW1]; simp
  have hcW : Ctx c W1 := by rw [← hW1]; exact (hc.alloc _).alloc _
  have hchg : Chg [] w.heap W1.heap := by
    rw [← hW1]
    exact Chg.trans (b := (w.alloc (.deferred (some []))).heap) (New.chg ⟨rfl, rfl⟩ []) (New.chg ⟨rfl, rfl⟩ [])
  have hL1 : W1.heap[w.heap.size + 1]? = some (.loop (rec .ready none)) := by
    rw [← hW1]; have := World.alloc_heap_new (w.alloc (.deferred (some []))) (.loop (rec .ready none)); rwa [World.size_alloc] at this
  have hK1 : W1.heap[w.heap.size]? = some (.deferred (some [])) := by
    rw [← hW1]; exact (Go.RowKit.Below.heap_alloc _ _ _ (by simp)).trans (World.alloc_heap_new w _)
  have hcall := hit (fun i h => I i h ∧ h[w.heap.size + 1]? = some (.loop (rec .ready none)) ∧ h[w.heap.size]? = some (.deferred (some []))) W1.heap hchg (fun i h x => x.1) ?_ ⟨h0 _ hchg hsz, hL1, hK1⟩
  · have hl1 : W1.heap.size - 1 = w.heap.size + 1 := by omega
    rw [hl1] at hcall
    have hgv : a.eval g = .func (.func gf) #[] cap := by rw [eval_eq ha]; exact hg
    refine ⟨w.heap.size + 1, [{ target := .collected w.heap.size, args := #[] }], W1, { target := .fn (.func gf) cap, args := #[.func (.yield (w.heap.size + 1)) #[] #[]] }, W1, gf,
      #[.func (.yield (w.heap.size + 1)) #[] #[]] ++ cap, W1, ?_, ?_, fun _ _ => trivial, ?_, fun h => by simp [Fe, Fence.wide] at h, ?_⟩
    · rw [← hW1, hrec]; exact run_enterLoop_outer _ _ _ _ _
    · simp only [resolve, hgv]
      simp [go_sem]
    · simp only [invoke]; exact hcall.1 _ _
    · have hcc := hcall.2 W1 rfl hcW
      refine CallsIn.mono (R := Ret fun v w' => Ctx c w' ∧ (I xs.length w'.heap ∧ w'.heap[w.heap.size + 1]? = some (.loop (rec .ready none)) ∧ w'.heap[w.heap.size]? = some (.deferred (some [])))) ((callsIn_wide (n := 0 - 1)).2 hcc) ?_
      intro e w3 he
      cases e with
      | returned v =>
        obtain ⟨hc3, hI3, hl3, hk3⟩ := he
        have hend := run_endLoop (P := P) hl3 (by rw [hrec]; simp)
        rw [hrec] at hend
        refine ⟨_, _, hend, ?_⟩
        have hlt := (Array.getElem?_eq_some_iff.1 hl3).1
        have hu := fun o => putObj_upd w3 (w.heap.size + 1) o hlt
        refine ⟨⟨s.ρ, { target := .collected w.heap.size, args := #[] } :: s.ds⟩, ⟨ha.1, by simp [ha.2.1], ha.2.2⟩, fun _ _ => rfl, ⟨hc3.os, hc3.tape, hc3.output⟩, ?_⟩
        refine hk _ (hI _ _ _ _ hI3 (hu _)) (((hu _).other _ (by omega)).trans hk3)
      | _ => exact he.elim
  · -- one round
    have hl1 : W1.heap.size - 1 = w.heap.size + 1 := by omega
    rw [hl1]
    rintro i x h1 hx ⟨hIi, hl, hkD⟩ w1 hw1 hc1
    subst hw1
    have hy := run_yield (P := P) (args := x.toArray) hl (by rw [hrec]; simpa using hxs x (List.mem_of_getElem? hx))
    rw [hrec] at hy
    refine ⟨fn, _, as, bd, hy, roundIn_of_wpIn (F := Fe none) trivial ?_⟩
    have hset := setP_rel n ps.toList x a.tmps s.ρ ha.1 ha.2.2 hps
    have hzip : (ps.zip x.toArray).foldl (fun (tmps : Array Value) (p : Nat × Value) => tmps.setIfInBounds p.1 p.2) a.tmps = (ps.toList.zip x).foldl (fun t (p : Nat × Value) => t.setIfInBounds p.1 p.2) a.tmps := by
      rw [← Array.foldl_toList, Array.toList_zip]
    refine wpIn_mono (pe_sound (ro := some (w.heap.size + 1)) hL as ⟨setP s.ρ ps.toList x, []⟩ X.done _ _ w1 (hbody i x w1.heap _ hx hIi hl hkD) ?_ hc1) ?_
    · refine ⟨?_, rfl, ?_⟩
      · show ((ps.zip x.toArray).foldl (fun (tmps : Array Value) (p : Nat × Value) => tmps.setIfInBounds p.1 p.2) a.tmps).size = n
        rw [hzip]; exact hset.1
      · intro t
        show ((ps.zip x.toArray).foldl (fun (tmps : Array Value) (p : Nat × Value) => tmps.setIfInBounds p.1 p.2) a.tmps).getD t undef = _
        rw [hzip]; exact hset.2 t
    · rintro e a2 w2 ⟨s1, g1, g2, g3⟩
      obtain ⟨rfl, hds, hsame, hb⟩ := g3
      have hl2 : w2.heap[w.heap.size + 1]? = some (.loop (rec .ready none)) := hsame.trans hl
      have hlt2 := (Array.getElem?_eq_some_iff.1 hl2).1
      have hu2 := putObj_upd w2 (w.heap.size + 1) (.loop { rec .ready none with state := .busy }) hlt2
      refine ⟨_, run_beginRound hl2 (by rw [hrec]), ?_⟩
      have hb' := hb _ _ hu2
      have g1' : Rel n a2 s1 := g1
      refine wpIn_mono (pe_sound (ro := some (w.heap.size + 1)) hL bd s1 X.done _ a2 _ hb' g1' ⟨g2.os, g2.tape, g2.output⟩) ?_
      rintro e a3 w3 ⟨_, _, f2, f3⟩
      obtain ⟨rfl, hI4, hsame4, hk4⟩ := f3
      have hl4 : w3.heap[w.heap.size + 1]? = some (.loop { rec .ready none with state := .busy }) := hsame4.trans hu2.here
      have hlt4 := (Array.getElem?_eq_some_iff.1 hl4).1
      refine ⟨_, _, run_endRound none hl4, ⟨f2.os, f2.tape, f2.output⟩, rfl, ?_⟩
      have hu4 := putObj_upd w3 (w.heap.size + 1) (.loop { { rec .ready none with state := .busy } with state := .ready, pending := none }) hlt4
      refine ⟨hI _ _ _ _ hI4 hu4, ?_, (hu4.other _ (by omega)).trans hk4⟩
      have := hu4.here
      rw [hrec] at this ⊢
      exact this
end
end Go.Xe
