/- The rules by which the tree of a body is walked, second part: a rule for each kind of node; a loop; a function's contract. -/
import Derived.Test.YtebbgoklldmkiaaGreatQ4
namespace Go.Xe
open Go

structure New (h h' : Hp) (b : Nat) (o : Obj) : Prop where
  eq : b = h.size
  heap : h' = h.push o
theorem New.chg {h h' : Hp} {b : Nat} {o : Obj} (x : New h h' b o) (M : List Nat) : Chg M h h' :=
  ⟨by rw [x.heap]; simp, fun k hk _ => by rw [x.heap, Array.getElem?_push, if_neg (by omega)]⟩
theorem New.here {h h' : Hp} {b : Nat} {o : Obj} (x : New h h' b o) : h'[b]? = some o := by rw [x.heap, x.eq]; simp
theorem New.le {h h' : Hp} {b : Nat} {o : Obj} (x : New h h' b o) : h.size ≤ b := by rw [x.eq]; exact Nat.le_refl _
theorem New.size {h h' : Hp} {b : Nat} {o : Obj} (x : New h h' b o) : h'.size = b + 1 := by rw [x.heap, x.eq]; simp
theorem New.of {h h' : Hp} {b : Nat} {o : Obj} (x : New h h' b o) {j : Nat} {u : Obj} (hj : h[j]? = some u) : h'[j]? = some u := (x.chg []).of hj (by simp)
theorem New.ne {h h' : Hp} {b : Nat} {o : Obj} (x : New h h' b o) {j : Nat} {u : Obj} (hj : h[j]? = some u) : j ≠ b := by
  have := (Array.getElem?_eq_some_iff.1 hj).1
  have := x.eq
  omega

structure Upd (h h' : Hp) (b : Nat) (o : Obj) : Prop where
  size : h'.size = h.size
  here : h'[b]? = some o
  other : ∀ j, j ≠ b → h'[j]? = h[j]?
theorem Upd.chg {h h' : Hp} {b : Nat} {o : Obj} (x : Upd h h' b o) {M : List Nat} (hb : b ∈ M) : Chg M h h' :=
  ⟨by rw [x.size]; exact Nat.le_refl _, fun k _ hm => x.other k (fun e => hm (e ▸ hb))⟩
theorem Upd.chgGe {h0 h h' : Hp} {b : Nat} {o : Obj} (x : Upd h h' b o) {M : List Nat} (y : Chg M h0 h) (hb : h0.size ≤ b) : Chg M h0 h' :=
  ⟨by rw [x.size]; exact y.size, fun k hk hm => (x.other k (by omega)).trans (y.same k hk hm)⟩
theorem Upd.of {h h' : Hp} {b : Nat} {o : Obj} (x : Upd h h' b o) {j : Nat} {u : Obj} (hj : h[j]? = some u) (hn : j ≠ b) : h'[j]? = some u := (x.other j hn).trans hj

theorem ld_of {h : Hp} {b o : Nat} {i : TI} {v : Value} {cs : List Value} {T : Nat} {fz : Nat × Nat} (hb : h[b]? = some (.cells cs.toArray T fz)) (hv : rd cs o i = some v) : Ld h b o i v :=
  ⟨_, _, _, hb, hv⟩

theorem Ld.chg {M : List Nat} {h h' : Hp} (x : Chg M h h') {b o : Nat} {i : TI} {v : Value} (y : Ld h b o i v) (hb : b ∉ M) : Ld h' b o i v := by
  obtain ⟨cs, T, fz, h1, h2⟩ := y
  exact ⟨cs, T, fz, x.of h1 hb, h2⟩

def okSt (cs : List Value) (o : Nat) (i : TI) (v : Value) : Bool :=
  Nat.beq v.cells.size i.size && Nat.ble (o + i.size) cs.length && v.cells.toList.all (·.oneCell')

def look : List Nat → List Value → Nat → Option Value
  | v :: vs, x :: xs, t => bif Nat.beq v t then some x else look vs xs t
  | _, _, _ => none

/-- the temporaries at a loop's head: those of vs hold vals; what else the body writes holds anything -/
def hd (vs : List Nat) (vals : List Value) (lo hi : Nat) (g ρ : Env) : Env := fun t =>
  match look vs vals t with
  | some v => v
  | none => bif Nat.ble lo t && Nat.ble t hi then g t else ρ t

theorem look_map (vs : List Nat) (ρ : Env) (t : Nat) : look vs (vs.map ρ) t = bif memN vs t then some (ρ t) else none := by
  induction vs with
  | nil => rfl
  | cons v vs ih =>
    simp only [List.map_cons, look, memN]
    by_cases hb : v = t
    · subst hb; simp [Nat.beq_refl]
    · have hb' : Nat.beq v t = false := by
        cases hx : Nat.beq v t with
        | false => rfl
        | true => exact absurd (Nat.eq_of_beq_eq_true hx) hb
      simp [hb', ih]

theorem hd_self (vs : List Nat) (lo hi : Nat) (ρ' ρ : Env) (h : ∀ t, inM vs lo hi t = false → ρ' t = ρ t) : hd vs (vs.map ρ') lo hi ρ' ρ = ρ' := by
  funext t
  simp only [hd, look_map]
  cases hm : memN vs t with
  | true => simp
  | false =>
    simp only [cond_false]
    cases hr : (Nat.ble lo t && Nat.ble t hi) with
    | true => rfl
    | false => exact (h t (by simp [inM, hm, hr])).symm

theorem opsIn_mod (vs : List Nat) (lo hi : Nat) : ∀ (l : List Oper), opsIn vs lo hi l = true → ∀ t, opsMod l t = true → inM vs lo hi t = true
  | [], _, _, ht => by cases ht
  | o :: l, h, t, ht => by
    simp only [opsIn, Bool.and_eq_true] at h
    simp only [opsMod, Bool.or_eq_true] at ht
    rcases ht with ht | ht
    · cases hd : o.dst with
      | none => rw [hd] at ht; cases ht
      | some d =>
        rw [hd] at ht h
        rw [← Nat.eq_of_beq_eq_true ht]
        exact h.1
    · exact opsIn_mod vs lo hi l h.2 t ht

theorem modsIn_mod (vs : List Nat) (lo hi : Nat) : ∀ (c : Code), modsIn vs lo hi c = true → ∀ t, modB c t = true → inM vs lo hi t = true
  | .region _ ops _, h, t, ht => opsIn_mod vs lo hi ops.toList h t ht
  | .seq a b, h, t, ht => by
    simp only [modsIn, Bool.and_eq_true] at h
    simp only [modB, Bool.or_eq_true] at ht
    exact ht.elim (modsIn_mod vs lo hi a h.1 t) (modsIn_mod vs lo hi b h.2 t)
  | .cond _ a b, h, t, ht => by
    simp only [modsIn, Bool.and_eq_true] at h
    simp only [modB, Bool.or_eq_true] at ht
    exact ht.elim (modsIn_mod vs lo hi a h.1 t) (modsIn_mod vs lo hi b h.2 t)
  | .block _ a, h, t, ht => modsIn_mod vs lo hi a h t ht
  | .loop a, h, t, ht => modsIn_mod vs lo hi a h t ht
  | .scope a, h, t, ht => modsIn_mod vs lo hi a h t ht
  | .skip, _, _, ht | .rangeFunc .., _, _, ht | .exit _, _, _, ht | .label _, _, _, ht | .goto _, _, _, ht | .ret, _, _, ht | .refuse _, _, _, ht => by cases ht

def loopQ (A : St → Hp → Prop) (B : Exit → St → Hp → Prop) : Exit → St → Hp → Prop
  | .normal, s, h => A s h
  | e, s, h => B e s h

def envOf : List Value → Env
  | [], _ => undef
  | v :: _, 0 => v
  | _ :: vs, t + 1 => envOf vs t

def allTmp : List ResultVar → Bool
  | [] => true
  | .tmp _ :: l => allTmp l
  | _ :: _ => false

def resL (ρ : Env) : List ResultVar → List Value
  | .tmp t :: l => ρ t :: resL ρ l
  | _ => []

def resT (rs : List ResultVar) (ρ : Env) : Value :=
  match resL ρ rs with
  | [v] => v
  | l => .tuple l.toArray

/-- what is to be shown at a function's end -/
def fin (rs : List ResultVar) (R : Value → Hp → Prop) : Exit → St → Hp → Prop
  | .ret, s, h => s.ds = [] ∧ R (resT rs s.ρ) h
  | .normal, s, h => s.ds = [] ∧ R (resT rs s.ρ) h
  | _, _, _ => False

def bodyOf (f : Func) : Code := f.body.getD (.refuse "")

section
variable {L : Lay} {P : Program} {c : World} {ro : Option Nat} {n : Nat} {h : Hp} {Q : Exit → St → Hp → Prop}

theorem wp_done {e : Exit} {s : St} (x : Q e s h) : (X.done e s).wp c P ro n h Q := x
theorem wp_chk {p : Prop} {x : X} (hp : p) (hx : x.wp c P ro n h Q) : (X.chk p x).wp c P ro n h Q := ⟨hp, hx⟩
theorem wp_br {b : Bool} {x y : X} (hx : b = true → x.wp c P ro n h Q) (hy : b = false → y.wp c P ro n h Q) : (X.br b x y).wp c P ro n h Q := ⟨hx, hy⟩
theorem wp_brT {b : Bool} {x y : X} (hb : b = true) (hx : x.wp c P ro n h Q) : (X.br b x y).wp c P ro n h Q := ⟨fun _ => hx, fun h => absurd (hb.symm.trans h) (by simp)⟩
theorem wp_brF {b : Bool} {x y : X} (hb : b = false) (hx : y.wp c P ro n h Q) : (X.br b x y).wp c P ro n h Q := ⟨fun h => absurd (hb.symm.trans h) (by simp), fun _ => hx⟩
theorem wp_load {b o : Nat} {i : TI} {k : Value → X} {v : Value} (hv : Ld h b o i v) (hk : (k v).wp c P ro n h Q) : (X.load b o i k).wp c P ro n h Q := ⟨v, hv, hk⟩
theorem wp_new {T : Nat} {cs : Array Value} {k : Nat → X} (hk : ∀ b h', New h h' b (.cells cs T) → (k b).wp c P ro n h' Q) : (X.new T cs k).wp c P ro n h Q := hk _ _ ⟨rfl, rfl⟩
theorem wp_store {b o : Nat} {i : TI} {v : Value} {x : X} {cs : List Value} {T : Nat} (hb : h[b]? = some (.cells cs.toArray T (0, 0))) (hs : okSt cs o i v = true)
    (hk : ∀ h', Upd h h' b (.cells (wrAt cs o v.cells.toList).toArray T) → x.wp c P ro n h' Q) : (X.store b o i v x).wp c P ro n h Q := by
  simp only [okSt, Bool.and_eq_true, List.all_eq_true] at hs
  exact ⟨_, _, hb, Nat.eq_of_beq_eq_true hs.1.1, by simpa using Nat.le_of_ble_eq_true hs.1.2, hs.2, fun h' h1 h2 h3 => hk h' ⟨h1, h2, h3⟩⟩
theorem wp_call {f : Nat} {args : Array Value} {k : Value → X} {R : Value → Hp → Prop} (hc : Call c P f args h R) (hk : ∀ v h', R v h' → (k v).wp c P ro n h' Q) :
    (X.call none f args k).wp c P ro n h Q := hc.mono fun v h' hv => ⟨trivial, hk v h' hv⟩
theorem wp_callE {D : List Nat} {f : Nat} {args : Array Value} {k : Value → X} {R : Value → Hp → Prop} (hc : Call c P f args h R) (hk : ∀ v h', R v h' → Chg D h h' ∧ (k v).wp c P ro n h' Q) :
    (X.call (some D) f args k).wp c P ro n h Q := hc.mono fun v h' hv => ⟨(hk v h' hv).1, (hk v h' hv).2⟩

theorem wp_loop (hL : LayOk L P) {body : Code} {s : St} {k : Exit → St → X} (vs : List Nat) (lo hi : Nat) (hm : (modsIn vs lo hi body && noRF body) = true)
    (Inv : List Value → Hp → Prop) (μ : List Value → Hp → Nat) (h0 : Inv (vs.map s.ρ) h)
    (step : ∀ g vals h', vals.length = vs.length → Inv vals h' → (pe L n body ⟨hd vs vals lo hi g s.ρ, s.ds⟩ X.done).wp c P ro n h'
      (loopQ (fun s' h'' => Inv (vs.map s'.ρ) h'' ∧ μ (vs.map s'.ρ) h'' < μ vals h') (fun e s' h'' => (k e s').wp c P ro n h'' Q))) :
    (X.loop body s k).wp c P ro n h Q := by
  simp only [Bool.and_eq_true] at hm
  intro w a hh hc ha
  subst hh
  have hρ : ∀ (a : Act) (s1 : St), Rel n a s1 → vs.map (fun t => a.tmps.getD t undef) = vs.map s1.ρ := fun a s1 hr => List.map_congr_left fun t _ => hr.2.2 t
  refine wpIn_loop (fun a w => ∃ s1, Rel n a s1 ∧ Agr (modB body) s s1 ∧ s1.ds = s.ds ∧ Ctx c w ∧ Inv (vs.map s1.ρ) w.heap) (fun a w => μ (vs.map fun t => a.tmps.getD t undef) w.heap)
    ⟨s, ha, Agr.refl _ _, rfl, hc, h0⟩ ?_
  rintro a w ⟨s1, hr, hag, hds, hcx, hI⟩
  have hself : (⟨hd vs (vs.map s1.ρ) lo hi s1.ρ s.ρ, s.ds⟩ : St) = s1 := by
    rw [hd_self vs lo hi s1.ρ s.ρ fun t ht => hag t (by
      cases hx : modB body t with
      | false => rfl
      | true => rw [modsIn_mod vs lo hi body hm.1 t hx] at ht; cases ht), ← hds]
  have hst := step s1.ρ (vs.map s1.ρ) w.heap (by simp) hI
  rw [hself] at hst
  have hst2 := pe_mono (M := modB body) (k' := X.done) (Q' := fun e s' h' => loopQ (fun s' h'' => Inv (vs.map s'.ρ) h'' ∧ μ (vs.map s'.ρ) h'' < μ (vs.map s1.ρ) w.heap) (fun e s' h'' => (k e s').wp c P ro n h'' Q) e s' h' ∧ Agr (modB body) s1 s' ∧ s'.ds = s1.ds)
    body s1 X.done w.heap _ (fun _ ht => ht) (fun e s' h' h1 h2 h3 => ⟨h3, h1, h2 hm.2⟩) hst
  refine wpIn_mono (pe_sound hL body s1 X.done _ a w hst2 hr hcx) ?_
  rintro e a' w' ⟨s', g1, g2, g3, g4, g5⟩
  cases e with
  | normal => exact ⟨⟨s', g1, hag.trans g4, g5.trans hds, g2, g3.1⟩, by rw [hρ a' s' g1, hρ a s1 hr]; exact g3.2⟩
  | _ => exact ⟨s', g1, hag.trans g4, g5.trans hds, g2, g3⟩

theorem least_ex (p : Nat → Prop) : ∀ n, p n → ∃ m, p m ∧ ∀ k, p k → m ≤ k := by
  intro n
  induction n using Nat.strongRecOn with
  | _ n ih =>
    intro hn
    by_cases h : ∃ k, k < n ∧ p k
    · obtain ⟨k, hk, hp⟩ := h
      exact ih k hk hp
    · exact ⟨n, hn, fun k hk => Nat.le_of_not_lt fun hlt => h ⟨k, hlt, hk⟩⟩

/-- a loop with a measure that stands in no variable -/
theorem wp_loopG (hL : LayOk L P) {body : Code} {s : St} {k : Exit → St → X} (vs : List Nat) (lo hi : Nat) (hm : (modsIn vs lo hi body && noRF body) = true)
    (Inv : Nat → List Value → Hp → Prop) (j0 : Nat) (h0 : Inv j0 (vs.map s.ρ) h)
    (step : ∀ j g vals h', vals.length = vs.length → Inv j vals h' → (pe L n body ⟨hd vs vals lo hi g s.ρ, s.ds⟩ X.done).wp c P ro n h'
      (loopQ (fun s' h'' => ∃ j', j' < j ∧ Inv j' (vs.map s'.ρ) h'') (fun e s' h'' => (k e s').wp c P ro n h'' Q))) :
    (X.loop body s k).wp c P ro n h Q := by
  have hle : ∀ vals h', (∃ j, Inv j vals h') → ∃ m, Inv m vals h' ∧ ∀ k, Inv k vals h' → m ≤ k := fun vals h' ⟨j, hj⟩ => least_ex (fun j => Inv j vals h') j hj
  refine wp_loop hL vs lo hi hm (fun vals h' => ∃ j, Inv j vals h') (fun vals h' => Classical.epsilon fun m => Inv m vals h' ∧ ∀ k, Inv k vals h' → m ≤ k) ⟨j0, h0⟩ ?_
  intro g vals h' hlen hex
  have hm1 := Classical.epsilon_spec (hle vals h' hex)
  have hst := step _ g vals h' hlen hm1.1
  refine pe_mono (M := fun _ => true) body _ X.done X.done h' _ _ (fun _ _ => rfl) (fun e s' h'' _ _ hx => ?_) hst
  cases e with
  | normal =>
    obtain ⟨j', hj', hI⟩ := hx
    have hm2 := Classical.epsilon_spec (hle (vs.map s'.ρ) h'' ⟨j', hI⟩)
    exact ⟨⟨j', hI⟩, Nat.lt_of_le_of_lt (hm2.2 j' hI) hj'⟩
  | _ => exact hx

theorem envOf_getD (args : Array Value) (k t : Nat) : (args ++ Array.replicate k undef).getD t undef = envOf args.toList t := by
  have h2 : ∀ (l : List Value) (t : Nat), envOf l t = l.getD t undef := by
    intro l
    induction l with
    | nil => intro t; rfl
    | cons v l ih => intro t; cases t <;> simp [envOf, ih]
  rw [h2]
  simp only [Array.getD_eq_getD_getElem?, Array.getElem?_append, List.getD_eq_getElem?_getD]
  split
  · rename_i h; simp
  · rename_i h
    rw [List.getElem?_eq_none (by simpa using h)]
    simp only [Array.getElem?_replicate]
    split <;> rfl

theorem results_all (fn : Func) (h : allTmp fn.results.toList = true) (tmps : Array Value) (ρ : Env) (hρ : ∀ t, tmps.getD t undef = ρ t) (w : World) :
    (results fn tmps).run P w = .ok (resT fn.results.toList ρ) w := by
  have hl : ∀ l : List ResultVar, allTmp l = true → l.map (fun r => match r with | .tmp t => ρ t | .cell _ _ => undef) = resL ρ l ∧ ∀ r, r ∈ l → ∃ t, r = .tmp t := by
    intro l
    induction l with
    | nil => intro _; exact ⟨rfl, fun r hr => by cases hr⟩
    | cons r l ih =>
      intro hx
      cases r with
      | tmp t =>
        obtain ⟨h1, h2⟩ := ih hx
        refine ⟨by simp only [List.map_cons, resL, h1], fun r hr => ?_⟩
        rcases List.mem_cons.1 hr with rfl | hr
        · exact ⟨t, rfl⟩
        · exact h2 r hr
      | cell a t => cases hx
  obtain ⟨h1, h2⟩ := hl _ h
  unfold results
  rw [Array.mapM_eq_mapM_toList]
  simp only [Sem.run_bind, Sem.run_map]
  rw [run_mapM P _ (fun r => match r with | .tmp t => ρ t | .cell _ _ => undef) w fn.results.toList (fun r hr => by
    obtain ⟨t, rfl⟩ := h2 r hr
    simp only [Sem.run_pure, hρ]), h1]
  simp only [Result.andThen_ok, Sem.run_pure]
  congr 1
  unfold resT
  cases hr : resL ρ fn.results.toList with
  | nil => rfl
  | cons v l => cases l <;> rfl

theorem call_of (hL : LayOk L P) {f : Nat} {fn : Func} (N : Nat) (hf : P.funcs[f]? = some fn) (hN : fn.ntmps = N) (hb : fn.body.isSome = true) (hname : (fn.name == "runtime.NumGoroutine") = false)
    (hr : allTmp fn.results.toList = true) {args : Array Value} (hsz : Nat.ble args.size N = true) {R : Value → Hp → Prop}
    (hw : (pe L N (bodyOf fn) ⟨envOf args.toList, []⟩ X.done).wp c P none N h (fin fn.results.toList R)) : Call c P f args h R := by
  subst hN
  refine ⟨fun as w => ?_, fun w hh hc => ?_⟩
  · have hb' : fn.body.isNone = false := by cases hx : fn.body <;> simp_all
    simp only [callFunc, Sem.run_bind, run_program, Result.andThen_ok, hf, hname, hb', Bool.false_eq_true, if_false, Sem.run_pure]
  · obtain ⟨cd, hcd⟩ := Option.isSome_iff_exists.1 hb
    subst hh
    have hbo : bodyOf fn = cd := by simp [bodyOf, hcd]
    rw [hbo] at hw
    refine (callsIn_wide (n := 0)).1 (callsIn_of_wp hf hcd trivial (wpIn_mono (pe_sound hL cd _ X.done _ _ w hw ?_ hc) ?_))
    · refine ⟨?_, rfl, fun t => envOf_getD args _ t⟩
      have := Nat.le_of_ble_eq_true hsz
      simp only [Array.size_append, Array.size_replicate]
      omega
    · rintro e a' w' ⟨s', g1, g2, g3⟩
      cases e with
      | ret => exact ⟨g1.2.1.trans g3.1, _, results_all fn hr _ _ g1.2.2 w', g2, g3.2⟩
      | normal => exact ⟨g1.2.1.trans g3.1, _, results_all fn hr _ _ g1.2.2 w', g2, g3.2⟩
      | _ => exact g3.elim
end
end Go.Xe
