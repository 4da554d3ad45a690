/- Lemmas on the way: The rules by which the tree of a body is walked, second part: a rule for each kind of node; a loop; a function's contract. A region whose order is open: one order is walked, every order is meant. Results that lie in cells; a range over a function; the contract of a function that holds one. Weight-balanced trees, as plain data: what put and remove do to the list of the pairs. A layout as a tree of tests, and what it owes. -/
import Derived.RangeFuncLeaves
import Derived.RangeFuncRecord
import Derived.KernelRfl
import Derived.Test.YtebbgoklldmkiaaGreatQ1
namespace Go.Xe
open Go

structure New (h h' : Hp) (b : Nat) (o : Obj) : Prop where
  eq : b = h.size
  heap : h' = h.push o
theorem New.chg {h h' : Hp} {b : Nat} {o : Obj} (x : New h h' b o) (M : List Nat) : Chg M h h' :=
  ⟨by rw [x.heap]; simp, fun k hk _ => by rw [x.heap, Array.getElem?_push, if_neg (by omega)]⟩
theorem New.here {h h' : Hp} {b : Nat} {o : Obj} (x : New h h' b o) : h'[b]? = some o := by rw [x.heap, x.eq]; simp
theorem New.le {h h' : Hp} {b : Nat} {o : Obj} (x : New h h' b o) : h.size ≤ b := by rw [x.eq]; exact Nat.le_refl _
theorem New.size {h h' : Hp} {b : Nat} {o : Obj} (x : New h h' b o) : h'.size = b + 1 := by rw [x.heap, x.eq]; simp
theorem New.of {h h' : Hp} {b : Nat} {o : Obj} (x : New h h' b o) {j : Nat} {u : Obj} (hj : h[j]? = some u) : h'[j]? = some u := (x.chg []).of hj (by simp)
theorem New.ne {h h' : Hp} {b : Nat} {o : Obj} (x : New h h' b o) {j : Nat} {u : Obj} (hj : h[j]? = some u) : j ≠ b := by
  have := (Array.getElem?_eq_some_iff.1 hj).1
  have := x.eq
  omega

structure Upd (h h' : Hp) (b : Nat) (o : Obj) : Prop where
  size : h'.size = h.size
  here : h'[b]? = some o
  other : ∀ j, j ≠ b → h'[j]? = h[j]?
theorem Upd.chg {h h' : Hp} {b : Nat} {o : Obj} (x : Upd h h' b o) {M : List Nat} (hb : b ∈ M) : Chg M h h' :=
  ⟨by rw [x.size]; exact Nat.le_refl _, fun k _ hm => x.other k (fun e => hm (e ▸ hb))⟩
theorem Upd.chgGe {h0 h h' : Hp} {b : Nat} {o : Obj} (x : Upd h h' b o) {M : List Nat} (y : Chg M h0 h) (hb : h0.size ≤ b) : Chg M h0 h' :=
  ⟨by rw [x.size]; exact y.size, fun k hk hm => (x.other k (by omega)).trans (y.same k hk hm)⟩
theorem Upd.of {h h' : Hp} {b : Nat} {o : Obj} (x : Upd h h' b o) {j : Nat} {u : Obj} (hj : h[j]? = some u) (hn : j ≠ b) : h'[j]? = some u := (x.other j hn).trans hj

theorem ld_of {h : Hp} {b o : Nat} {i : TI} {v : Value} {cs : List Value} {T : Nat} {fz : Nat × Nat} (hb : h[b]? = some (.cells cs.toArray T fz)) (hv : rd cs o i = some v) : Ld h b o i v :=
  ⟨_, _, _, hb, hv⟩

theorem Ld.chg {M : List Nat} {h h' : Hp} (x : Chg M h h') {b o : Nat} {i : TI} {v : Value} (y : Ld h b o i v) (hb : b ∉ M) : Ld h' b o i v := by
  obtain ⟨cs, T, fz, h1, h2⟩ := y
  exact ⟨cs, T, fz, x.of h1 hb, h2⟩

def okSt (cs : List Value) (o : Nat) (i : TI) (v : Value) : Bool :=
  Nat.beq v.cells.size i.size && Nat.ble (o + i.size) cs.length && v.cells.toList.all (·.oneCell')

def look : List Nat → List Value → Nat → Option Value
  | v :: vs, x :: xs, t => bif Nat.beq v t then some x else look vs xs t
  | _, _, _ => none

/-- the temporaries at a loop's head: those of vs hold vals; what else the body writes holds anything -/
def hd (vs : List Nat) (vals : List Value) (lo hi : Nat) (g ρ : Env) : Env := fun t =>
  match look vs vals t with
  | some v => v
  | none => bif Nat.ble lo t && Nat.ble t hi then g t else ρ t

theorem look_map (vs : List Nat) (ρ : Env) (t : Nat) : look vs (vs.map ρ) t = bif memN vs t then some (ρ t) else none := by
  induction vs with
  | nil => rfl
  | cons v vs ih =>
    simp only [List.map_cons, look, memN]
    by_cases hb : v = t
    · subst hb; simp [Nat.beq_refl]
    · have hb' : Nat.beq v t = false := by
        cases hx : Nat.beq v t with
        | false => rfl
        | true => exact absurd (Nat.eq_of_beq_eq_true hx) hb
      simp [hb', ih]

theorem hd_self (vs : List Nat) (lo hi : Nat) (ρ' ρ : Env) (h : ∀ t, inM vs lo hi t = false → ρ' t = ρ t) : hd vs (vs.map ρ') lo hi ρ' ρ = ρ' := by
  funext t
  simp only [hd, look_map]
  cases hm : memN vs t with
  | true => simp
  | false =>
    simp only [cond_false]
    cases hr : (Nat.ble lo t && Nat.ble t hi) with
    | true => rfl
    | false => exact (h t (by simp [inM, hm, hr])).symm

theorem opsIn_mod (vs : List Nat) (lo hi : Nat) : ∀ (l : List Oper), opsIn vs lo hi l = true → ∀ t, opsMod l t = true → inM vs lo hi t = true
  | [], _, _, ht => by cases ht
  | o :: l, h, t, ht => by
    simp only [opsIn, Bool.and_eq_true] at h
    simp only [opsMod, Bool.or_eq_true] at ht
    rcases ht with ht | ht
    · cases hd : o.dst with
      | none => rw [hd] at ht; cases ht
      | some d =>
        rw [hd] at ht h
        rw [← Nat.eq_of_beq_eq_true ht]
        exact h.1
    · exact opsIn_mod vs lo hi l h.2 t ht

theorem modsIn_mod (vs : List Nat) (lo hi : Nat) : ∀ (c : Code), modsIn vs lo hi c = true → ∀ t, modB c t = true → inM vs lo hi t = true
  | .region _ ops _, h, t, ht => opsIn_mod vs lo hi ops.toList h t ht
  | .seq a b, h, t, ht => by
    simp only [modsIn, Bool.and_eq_true] at h
    simp only [modB, Bool.or_eq_true] at ht
    exact ht.elim (modsIn_mod vs lo hi a h.1 t) (modsIn_mod vs lo hi b h.2 t)
  | .cond _ a b, h, t, ht => by
    simp only [modsIn, Bool.and_eq_true] at h
    simp only [modB, Bool.or_eq_true] at ht
    exact ht.elim (modsIn_mod vs lo hi a h.1 t) (modsIn_mod vs lo hi b h.2 t)
  | .block _ a, h, t, ht => modsIn_mod vs lo hi a h t ht
  | .loop a, h, t, ht => modsIn_mod vs lo hi a h t ht
  | .scope a, h, t, ht => modsIn_mod vs lo hi a h t ht
  | .skip, _, _, ht | .rangeFunc .., _, _, ht | .exit _, _, _, ht | .label _, _, _, ht | .goto _, _, _, ht | .ret, _, _, ht | .refuse _, _, _, ht => by cases ht

def loopQ (A : St → Hp → Prop) (B : Exit → St → Hp → Prop) : Exit → St → Hp → Prop
  | .normal, s, h => A s h
  | e, s, h => B e s h

def envOf : List Value → Env
  | [], _ => undef
  | v :: _, 0 => v
  | _ :: vs, t + 1 => envOf vs t

def allTmp : List ResultVar → Bool
  | [] => true
  | .tmp _ :: l => allTmp l
  | _ :: _ => false

def resL (ρ : Env) : List ResultVar → List Value
  | .tmp t :: l => ρ t :: resL ρ l
  | _ => []

def resT (rs : List ResultVar) (ρ : Env) : Value :=
  match resL ρ rs with
  | [v] => v
  | l => .tuple l.toArray

/-- what is to be shown at a function's end -/
def fin (rs : List ResultVar) (R : Value → Hp → Prop) : Exit → St → Hp → Prop
  | .ret, s, h => s.ds = [] ∧ R (resT rs s.ρ) h
  | .normal, s, h => s.ds = [] ∧ R (resT rs s.ρ) h
  | _, _, _ => False

def bodyOf (f : Func) : Code := f.body.getD (.refuse "")

section
variable {L : Lay} {P : Program} {c : World} {ro : Option Nat} {n : Nat} {h : Hp} {Q : Exit → St → Hp → Prop}

theorem wp_done {e : Exit} {s : St} (x : Q e s h) : (X.done e s).wp c P ro n h Q := x
theorem wp_chk {p : Prop} {x : X} (hp : p) (hx : x.wp c P ro n h Q) : (X.chk p x).wp c P ro n h Q := ⟨hp, hx⟩
theorem wp_br {b : Bool} {x y : X} (hx : b = true → x.wp c P ro n h Q) (hy : b = false → y.wp c P ro n h Q) : (X.br b x y).wp c P ro n h Q := ⟨hx, hy⟩
theorem wp_brT {b : Bool} {x y : X} (hb : b = true) (hx : x.wp c P ro n h Q) : (X.br b x y).wp c P ro n h Q := ⟨fun _ => hx, fun h => absurd (hb.symm.trans h) (by simp)⟩
theorem wp_brF {b : Bool} {x y : X} (hb : b = false) (hx : y.wp c P ro n h Q) : (X.br b x y).wp c P ro n h Q := ⟨fun h => absurd (hb.symm.trans h) (by simp), fun _ => hx⟩
theorem wp_load {b o : Nat} {i : TI} {k : Value → X} {v : Value} (hv : Ld h b o i v) (hk : (k v).wp c P ro n h Q) : (X.load b o i k).wp c P ro n h Q := ⟨v, hv, hk⟩
theorem wp_new {T : Nat} {cs : Array Value} {k : Nat → X} (hk : ∀ b h', New h h' b (.cells cs T) → (k b).wp c P ro n h' Q) : (X.new T cs k).wp c P ro n h Q := hk _ _ ⟨rfl, rfl⟩
theorem wp_store {b o : Nat} {i : TI} {v : Value} {x : X} {cs : List Value} {T : Nat} (hb : h[b]? = some (.cells cs.toArray T (0, 0))) (hs : okSt cs o i v = true)
    (hk : ∀ h', Upd h h' b (.cells (wrAt cs o v.cells.toList).toArray T) → x.wp c P ro n h' Q) : (X.store b o i v x).wp c P ro n h Q := by
  simp only [okSt, Bool.and_eq_true, List.all_eq_true] at hs
  exact ⟨_, _, hb, Nat.eq_of_beq_eq_true hs.1.1, by simpa using Nat.le_of_ble_eq_true hs.1.2, hs.2, fun h' h1 h2 h3 => hk h' ⟨h1, h2, h3⟩⟩
theorem wp_call {f : Nat} {args : Array Value} {k : Value → X} {R : Value → Hp → Prop} (hc : Call c P f args h R) (hk : ∀ v h', R v h' → (k v).wp c P ro n h' Q) :
    (X.call none f args k).wp c P ro n h Q := hc.mono fun v h' hv => ⟨trivial, hk v h' hv⟩
theorem wp_callE {D : List Nat} {f : Nat} {args : Array Value} {k : Value → X} {R : Value → Hp → Prop} (hc : Call c P f args h R) (hk : ∀ v h', R v h' → Chg D h h' ∧ (k v).wp c P ro n h' Q) :
    (X.call (some D) f args k).wp c P ro n h Q := hc.mono fun v h' hv => ⟨(hk v h' hv).1, (hk v h' hv).2⟩

theorem wp_loop (hL : LayOk L P) {body : Code} {s : St} {k : Exit → St → X} (vs : List Nat) (lo hi : Nat) (hm : (modsIn vs lo hi body && noRF body) = true)
    (Inv : List Value → Hp → Prop) (μ : List Value → Hp → Nat) (h0 : Inv (vs.map s.ρ) h)
    (step : ∀ g vals h', vals.length = vs.length → Inv vals h' → (pe L n body ⟨hd vs vals lo hi g s.ρ, s.ds⟩ X.done).wp c P ro n h'
      (loopQ (fun s' h'' => Inv (vs.map s'.ρ) h'' ∧ μ (vs.map s'.ρ) h'' < μ vals h') (fun e s' h'' => (k e s').wp c P ro n h'' Q))) :
    (X.loop body s k).wp c P ro n h Q := by
  simp only [Bool.and_eq_true] at hm
  intro w a hh hc ha
  subst hh
  have hρ : ∀ (a : Act) (s1 : St), Rel n a s1 → vs.map (fun t => a.tmps.getD t undef) = vs.map s1.ρ := fun a s1 hr => List.map_congr_left fun t _ => hr.2.2 t
  refine wpIn_loop (fun a w => ∃ s1, Rel n a s1 ∧ Agr (modB body) s s1 ∧ s1.ds = s.ds ∧ Ctx c w ∧ Inv (vs.map s1.ρ) w.heap) (fun a w => μ (vs.map fun t => a.tmps.getD t undef) w.heap)
    ⟨s, ha, Agr.refl _ _, rfl, hc, h0⟩ ?_
  rintro a w ⟨s1, hr, hag, hds, hcx, hI⟩
  have hself : (⟨hd vs (vs.map s1.ρ) lo hi s1.ρ s.ρ, s.ds⟩ : St) = s1 := by
    rw [hd_self vs lo hi s1.ρ s.ρ fun t ht => hag t (by
      cases hx : modB body t with
      | false => rfl
      | true => rw [modsIn_mod vs lo hi body hm.1 t hx] at ht; cases ht), ← hds]
  have hst := step s1.ρ (vs.map s1.ρ) w.heap (by simp) hI
  rw [hself] at hst
  have hst2 := pe_mono (M := modB body) (k' := X.done) (Q' := fun e s' h' => loopQ (fun s' h'' => Inv (vs.map s'.ρ) h'' ∧ μ (vs.map s'.ρ) h'' < μ (vs.map s1.ρ) w.heap) (fun e s' h'' => (k e s').wp c P ro n h'' Q) e s' h' ∧ Agr (modB body) s1 s' ∧ s'.ds = s1.ds)
    body s1 X.done w.heap _ (fun _ ht => ht) (fun e s' h' h1 h2 h3 => ⟨h3, h1, h2 hm.2⟩) hst
  refine wpIn_mono (pe_sound hL body s1 X.done _ a w hst2 hr hcx) ?_
  rintro e a' w' ⟨s', g1, g2, g3, g4, g5⟩
  cases e with
  | normal => exact ⟨⟨s', g1, hag.trans g4, g5.trans hds, g2, g3.1⟩, by rw [hρ a' s' g1, hρ a s1 hr]; exact g3.2⟩
  | _ => exact ⟨s', g1, hag.trans g4, g5.trans hds, g2, g3⟩

theorem least_ex (p : Nat → Prop) : ∀ n, p n → ∃ m, p m ∧ ∀ k, p k → m ≤ k := by
  intro n
  induction n using Nat.strongRecOn with
  | _ n ih =>
    intro hn
    by_cases h : ∃ k, k < n ∧ p k
    · obtain ⟨k, hk, hp⟩ := h
      exact ih k hk hp
    · exact ⟨n, hn, fun k hk => Nat.le_of_not_lt fun hlt => h ⟨k, hlt, hk⟩⟩

/-- a loop with a measure that stands in no variable -/
theorem wp_loopG (hL : LayOk L P) {body : Code} {s : St} {k : Exit → St → X} (vs : List Nat) (lo hi : Nat) (hm : (modsIn vs lo hi body && noRF body) = true)
    (Inv : Nat → List Value → Hp → Prop) (j0 : Nat) (h0 : Inv j0 (vs.map s.ρ) h)
    (step : ∀ j g vals h', vals.length = vs.length → Inv j vals h' → (pe L n body ⟨hd vs vals lo hi g s.ρ, s.ds⟩ X.done).wp c P ro n h'
      (loopQ (fun s' h'' => ∃ j', j' < j ∧ Inv j' (vs.map s'.ρ) h'') (fun e s' h'' => (k e s').wp c P ro n h'' Q))) :
    (X.loop body s k).wp c P ro n h Q := by
  have hle : ∀ vals h', (∃ j, Inv j vals h') → ∃ m, Inv m vals h' ∧ ∀ k, Inv k vals h' → m ≤ k := fun vals h' ⟨j, hj⟩ => least_ex (fun j => Inv j vals h') j hj
  refine wp_loop hL vs lo hi hm (fun vals h' => ∃ j, Inv j vals h') (fun vals h' => Classical.epsilon fun m => Inv m vals h' ∧ ∀ k, Inv k vals h' → m ≤ k) ⟨j0, h0⟩ ?_
  intro g vals h' hlen hex
  have hm1 := Classical.epsilon_spec (hle vals h' hex)
  have hst := step _ g vals h' hlen hm1.1
  refine pe_mono (M := fun _ => true) body _ X.done X.done h' _ _ (fun _ _ => rfl) (fun e s' h'' _ _ hx => ?_) hst
  cases e with
  | normal =>
    obtain ⟨j', hj', hI⟩ := hx
    have hm2 := Classical.epsilon_spec (hle (vs.map s'.ρ) h'' ⟨j', hI⟩)
    exact ⟨⟨j', hI⟩, Nat.lt_of_le_of_lt (hm2.2 j' hI) hj'⟩
  | _ => exact hx

theorem envOf_getD (args : Array Value) (k t : Nat) : (args ++ Array.replicate k undef).getD t undef = envOf args.toList t := by
  have h2 : ∀ (l : List Value) (t : Nat), envOf l t = l.getD t undef := by
    intro l
    induction l with
    | nil => intro t; rfl
    | cons v l ih => intro t; cases t <;> simp [envOf, ih]
  rw [h2]
  simp only [Array.getD_eq_getD_getElem?, Array.getElem?_append, List.getD_eq_getElem?_getD]
  split
  · rename_i h; simp
  · rename_i h
    rw [List.getElem?_eq_none (by simpa using h)]
    simp only [Array.getElem?_replicate]
    split <;> rfl

theorem results_all (fn : Func) (h : allTmp fn.results.toList = true) (tmps : Array Value) (ρ : Env) (hρ : ∀ t, tmps.getD t undef = ρ t) (w : World) :
    (results fn tmps).run P w = .ok (resT fn.results.toList ρ) w := by
  have hl : ∀ l : List ResultVar, allTmp l = true → l.map (fun r => match r with | .tmp t => ρ t | .cell _ _ => undef) = resL ρ l ∧ ∀ r, r ∈ l → ∃ t, r = .tmp t := by
    intro l
    induction l with
    | nil => intro _; exact ⟨rfl, fun r hr => by cases hr⟩
    | cons r l ih =>
      intro hx
      cases r with
      | tmp t =>
        obtain ⟨h1, h2⟩ := ih hx
        refine ⟨by simp only [List.map_cons, resL, h1], fun r hr => ?_⟩
        rcases List.mem_cons.1 hr with rfl | hr
        · exact ⟨t, rfl⟩
        · exact h2 r hr
      | cell a t => cases hx
  obtain ⟨h1, h2⟩ := hl _ h
  unfold results
  rw [Array.mapM_eq_mapM_toList]
  simp only [Sem.run_bind, Sem.run_map]
  rw [run_mapM P _ (fun r => match r with | .tmp t => ρ t | .cell _ _ => undef) w fn.results.toList (fun r hr => by
    obtain ⟨t, rfl⟩ := h2 r hr
    simp only [Sem.run_pure, hρ]), h1]
  simp only [Result.andThen_ok, Sem.run_pure]
  congr 1
  unfold resT
  cases hr : resL ρ fn.results.toList with
  | nil => rfl
  | cons v l => cases l <;> rfl

theorem call_of (hL : LayOk L P) {f : Nat} {fn : Func} (N : Nat) (hf : P.funcs[f]? = some fn) (hN : fn.ntmps = N) (hb : fn.body.isSome = true) (hname : (fn.name == "runtime.NumGoroutine") = false)
    (hr : allTmp fn.results.toList = true) {args : Array Value} (hsz : Nat.ble args.size N = true) {R : Value → Hp → Prop}
    (hw : (pe L N (bodyOf fn) ⟨envOf args.toList, []⟩ X.done).wp c P none N h (fin fn.results.toList R)) : Call c P f args h R := by
  subst hN
  refine ⟨fun as w => ?_, fun w hh hc => ?_⟩
  · have hb' : fn.body.isNone = false := by cases hx : fn.body <;> simp_all
    simp only [callFunc, Sem.run_bind, run_program, Result.andThen_ok, hf, hname, hb', Bool.false_eq_true, if_false, Sem.run_pure]
  · obtain ⟨cd, hcd⟩ := Option.isSome_iff_exists.1 hb
    subst hh
    have hbo : bodyOf fn = cd := by simp [bodyOf, hcd]
    rw [hbo] at hw
    refine (callsIn_wide (n := 0)).1 (callsIn_of_wp hf hcd trivial (wpIn_mono (pe_sound hL cd _ X.done _ _ w hw ?_ hc) ?_))
    · refine ⟨?_, rfl, fun t => envOf_getD args _ t⟩
      have := Nat.le_of_ble_eq_true hsz
      simp only [Array.size_append, Array.size_replicate]
      omega
    · rintro e a' w' ⟨s', g1, g2, g3⟩
      cases e with
      | ret => exact ⟨g1.2.1.trans g3.1, _, results_all fn hr _ _ g1.2.2 w', g2, g3.2⟩
      | normal => exact ⟨g1.2.1.trans g3.1, _, results_all fn hr _ _ g1.2.2 w', g2, g3.2⟩
      | _ => exact g3.elim
end
end Go.Xe
namespace Go.Xe
open Go

inductive Ord
  | fin
  | free (i : Nat) (r : Ord)
  | alt (i : Nat) (r next : Ord)
  | non

def isLoad (o : Oper) : Bool := match o.op with | .load .. => true | _ => false
def isPure (o : Oper) : Bool :=
  match o.op with
  | .move _ | .assign _ | .pick .. | .nilCheck _ | .build .. | .binOp .. | .unOp .. | .convert .. | .makeFunc .. | .slice .. | .fieldAddr .. | .field .. | .indexAddr .. | .index .. | .extract .. => true
  | .call { callee := .builtin .len, .. } => true
  | _ => false
def isFree (o : Oper) : Bool := isLoad o || isPure o

/-- the operations that come ahead of each, as bits -/
def befE (acc : List Nat) : List Edge → Nat → Nat
  | [], m => m
  | e :: l, m => befE acc l (bif Region.binds .any e then m ||| 2 ^ e.on ||| acc.getD e.on 0 else m)
def befs : List Oper → List Nat → List Nat
  | [], acc => acc
  | o :: l, acc => befs l (acc ++ [befE acc o.after.toList 0])

def markL (listed : List Bool) (i : Nat) : List Bool := listed.set i true

def readyL (ops : List Oper) (listed : List Bool) : List Nat :=
  (List.range ops.length).filter fun i => !listed.getD i true && ((ops[i]?).map (·.after.toList.all fun e => !Region.binds .any e || listed.getD e.on false)).getD false

def freeOk (ops : Array Oper) (xs bf : List Nat) (listed : List Bool) (i : Nat) (oi : Oper) : Bool :=
  isFree oi && (List.range ops.size).all fun j => j == i || listed.getD j true || (bf.getD j 0).testBit i || match ops[j]? with
    | some oj => oi.apart ops oj && (!isLoad oi || isFree oj || memN xs j)
    | none => true

def altSet : Ord → List Nat
  | .alt i _ next => i :: altSet next
  | _ => []

def okOrd (ops : Array Oper) (xs bf : List Nat) : Ord → List Bool → Bool
  | .fin, listed => (readyL ops.toList listed).isEmpty
  | .free i r, listed => (readyL ops.toList listed).contains i && (match ops[i]? with | some o => freeOk ops xs bf listed i o | none => false) && okOrd ops xs bf r (markL listed i)
  | .alt i r next, listed => okOrd ops xs bf r (markL listed i) && (match next with | .alt .. => okOrd ops xs bf next listed | _ => true)
  | .non, _ => false

/-- at each choice all that may come up are listed -/
def okAlt (ops : Array Oper) : Ord → List Bool → Bool → Bool
  | .fin, _, _ => true
  | .free i r, listed, _ => okAlt ops r (markL listed i) true
  | .alt i r next, listed, top => (!top || readyL ops.toList listed == i :: altSet next) && okAlt ops r (markL listed i) true && okAlt ops next listed false
  | .non, _, _ => true

def depth : Ord → Nat
  | .fin => 0
  | .free _ r => depth r + 1
  | .alt _ r next => max (depth r + 1) (depth next)
  | .non => 0

def okOp (o : Oper) : Bool := match o.op with | .select .. | .defer _ | .go _ => false | _ => true

def okDraw (ops : Array Oper) (xs : List Nat) (ord : Ord) : Bool :=
  okOrd ops xs (befs ops.toList []) ord (List.replicate ops.size false) && okAlt ops ord (List.replicate ops.size false) true && Nat.ble (depth ord) ops.size && ops.toList.all okOp

/-- an operation that reads at most -/
def opF (L : Lay) (n : Nat) (D : List Nat) (o : Oper) (s : St) (k : St → X) : X :=
  bif okDst n o.dst then
    match cl L (ev s.ρ) o with
    | .pure v => k (s.put o.dst v)
    | .chk p v => .chk p (k (s.put o.dst v))
    | .br t x y => .br t (k (s.put o.dst x)) (k (s.put o.dst y))
    | .load b a i => bif isLoad o then (match D with
      | [] => .load b a i fun v => k (s.put o.dst v)
      | D => .chk (b ∉ D) (.load b a i fun v => k (s.put o.dst v))) else .fail
    | _ => .fail
  else .fail

def gF (L : Lay) (n : Nat) (D : List Nat) (ops : Array Oper) (o : Oper) (s : St) (k : St → X) : X :=
  match o.guard with
  | none => opF L n D o s k
  | some (j, b) => match (ops[j]?).bind (·.dst) with
    | some d => bif Nat.blt d n then (match s.ρ d with
      | .bool t => .br t (bif b then opF L n D o ⟨upd s.ρ d (.bool true), s.ds⟩ k else bif okDst n o.dst then k (St.put ⟨upd s.ρ d (.bool true), s.ds⟩ o.dst undef) else .fail)
          (bif b then (bif okDst n o.dst then k (St.put ⟨upd s.ρ d (.bool false), s.ds⟩ o.dst undef) else .fail) else opF L n D o ⟨upd s.ρ d (.bool false), s.ds⟩ k)
      | .tuple _ => bif okDst n o.dst then k (s.put o.dst undef) else .fail
      | _ => .fail) else .fail
    | none => .fail

def drawX (L : Lay) (n : Nat) (D : List Nat) (ops : Array Oper) (xs : List Nat) : Ord → St → (St → X) → X
  | .fin, s, k => k s
  | .free i r, s, k => match ops[i]? with
    | some o => gF L n D ops o s fun s' => drawX L n D ops xs r s' k
    | none => .fail
  | .alt i r .non, s, k => match ops[i]? with
    | some o => gX L n ops (bif isFree o || memN xs i then some D else none) o s fun s' => drawX L n D ops xs r s' k
    | none => .fail
  | .alt i r next, s, k => .both (match ops[i]? with
    | some o => gX L n ops (bif isFree o || memN xs i then some D else none) o s fun s' => drawX L n D ops xs r s' k
    | none => .fail) (drawX L n D ops xs next s k)
  | .non, _, _ => .fail

/-- the order of the list, the operations that act being come to one at a time -/
def seqO (ops : Array Oper) : List Nat → Ord
  | [] => .fin
  | i :: l => match ops[i]? with
    | some o => bif isFree o then .free i (seqO ops l) else .alt i (seqO ops l) .non
    | none => .non

/-- ranges of numbers, from .. to -/
def rs : List (Nat × Nat) → List Nat
  | [] => []
  | (a, b) :: l => List.range' a (b + 1 - a) ++ rs l

section
variable {P : Program} {D : List Nat} {ops : Array Oper} {xs : List Nat} {ro : Option Nat} {Q : Exit → Act → World → Prop}

/-- every order; an operation that must leave what was there does so -/
def wpAE (P : Program) (D : List Nat) (ro : Option Nat) (ops : Array Oper) (xs : List Nat) (Q : Exit → Act → World → Prop) : Nat → Array Bool → Act → World → Prop
  | 0, listed, a, w => Region.ready .any ops listed = [] ∧ Q .normal a w
  | fuel + 1, listed, a, w =>
    (Region.ready .any ops listed = [] → Q .normal a w) ∧
    ∀ i ∈ Region.ready .any ops listed, wpOpIn (Fe ro) 0 P ops Q i (fun a' w' => ((∃ o, ops[i]? = some o ∧ (isFree o || memN xs i) = true) → Chg D w.heap w'.heap) ∧ wpAE P D ro ops xs Q fuel (listed.setIfInBounds i true) a' w') a w

theorem wpAE_any : ∀ (fuel : Nat) (listed : Array Bool) (a : Act) (w : World), wpAE P D ro ops xs Q fuel listed a w → wpAnyIn (Fe ro) 0 P .any ops Q fuel listed a w
  | 0, _, _, _, h => h
  | _ + 1, _, _, _, h => ⟨h.1, fun i hi => wpOpIn_mono (fun a w x => wpAE_any _ _ a w x.2) (h.2 i hi)⟩

/-- the operation gives v, now and behind whatever leaves what was there -/
def RdY (P : Program) (D : List Nat) (ops : Array Oper) (o : Oper) (v : Value) (a : Act) (w : World) : Prop :=
  (Region.wanted o (yielded ops a.tmps) = true ∧ ∀ w', (isLoad o = true → Chg D w.heap w'.heap) → (execOp a.eval o).run P w' = .ok (.value v) w') ∨
  (Region.wanted o (yielded ops a.tmps) = false ∧ v = undef)

theorem okOp_spec {o : Oper} (h : okOp o = true) : (∀ cs b, o.op ≠ .select cs b) ∧ (∀ k, o.op ≠ .defer k) := by
  refine ⟨fun cs b hx => ?_, fun k hx => ?_⟩ <;> (unfold okOp at h; rw [hx] at h; cases h)

theorem RdY.same {o : Oper} {v : Value} {a a' : Act} {w w' : World} (h : RdY P D ops o v a w) (he : execOp a'.eval o = execOp a.eval o)
    (hw : Region.wanted o (yielded ops a'.tmps) = Region.wanted o (yielded ops a.tmps)) (hc : isLoad o = true → Chg D w.heap w'.heap) : RdY P D ops o v a' w' := by
  unfold RdY at *
  rw [he, hw]
  exact h.imp (fun ⟨h1, h2⟩ => ⟨h1, fun w2 hl => h2 w2 fun hx => (hc hx).trans (hl hx)⟩) id

theorem RdY.op {i : Nat} {o : Oper} {v : Value} {a : Act} {w : World} (hi : ops[i]? = some o) (hok : okOp o = true) (hy : RdY P D ops o v a w) {K : Act → World → Prop} (h : K (a.put o.dst v) w) :
    wpOpIn (Fe ro) 0 P ops Q i K a w := by
  unfold wpOpIn
  simp only [hi]
  rcases hy with ⟨hw, hv⟩ | ⟨hw, rfl⟩
  · rw [hw, if_pos rfl]
    refine ⟨fun _ _ => trivial, ?_⟩
    rw [semAt_eq o a.eval (okOp_spec hok).2, hv w (fun _ => Chg.refl _ _)]
    exact h
  · rw [hw, if_neg (by simp)]
    exact ⟨fun _ _ => trivial, h⟩

theorem put_op {j : Nat} {oi oj : Oper} {v : Value} (hj : ops[j]? = some oj) (hap : oi.apart ops oj = true) (hsi : okOp oi = true) (hsj : okOp oj = true)
    (hQ : ∀ c a w, ¬ Q (.panic c) a w) {K : Act → World → Prop} {a : Act} {w : World} (h : wpOpIn (Fe ro) 0 P ops Q j K (a.put oi.dst v) w) :
    wpOpIn (Fe ro) 0 P ops Q j (fun a' w' => (execOp a'.eval oi = execOp a.eval oi ∧ Region.wanted oi (yielded ops a'.tmps) = Region.wanted oi (yielded ops a.tmps)) ∧ K (a'.put oi.dst v) w') a w := by
  obtain ⟨h1, h2, h3⟩ := Oper.apart_spec hap
  have keep : ∀ (a : Act) (u : Value), execOp (a.put oj.dst u).eval oi = execOp a.eval oi ∧ Region.wanted oi (yielded ops (a.put oj.dst u).tmps) = Region.wanted oi (yielded ops a.tmps) := fun a u =>
    ⟨execOp_put oi (okOp_spec hsi).1 a oj.dst u h3, wanted_put oi a oj.dst u h3⟩
  unfold wpOpIn at *
  simp only [hj] at *
  rw [wanted_put oj a oi.dst v h1] at h
  split
  · rename_i hw
    simp only [hw, if_true] at h
    refine ⟨fun _ _ => trivial, ?_⟩
    have h := h.2
    rw [semAt_eq oj _ (okOp_spec hsj).2, execOp_put oj (okOp_spec hsj).1 a oi.dst v h1] at h
    rw [semAt_eq oj _ (okOp_spec hsj).2]
    generalize (execOp a.eval oj).run P w = r at *
    cases r with
    | ok x w' =>
      cases x <;> simp only [Oper.uponIn] at h ⊢
      case value u => exact ⟨keep a u, by rw [← Act.put_comm a v u h2]; exact h⟩
      case skip => exact ⟨keep a _, by rw [← Act.put_comm a v undef h2]; exact h⟩
      case defer d =>
        refine ⟨keep { a with defers := d :: a.defers } _, ?_⟩
        rw [← Act.put_comm _ v undef h2, ← Act.put_defers]
        exact h
      case enter f args =>
        refine ⟨h.1, CallsIn.mono h.2 fun e w'' he => ?_⟩
        cases e with
        | returned u => exact ⟨keep a u, by rw [← Act.put_comm a v u h2]; exact he⟩
        | panicked c => exact absurd he (hQ _ _ _)
        | outgrown => exact he
      case row row args => exact ⟨h.1, RowsIn.mono h.2 fun u w'' he => ⟨keep a u, by rw [← Act.put_comm a v u h2]; exact he⟩⟩
      case round l f tmps assign body =>
        refine ⟨h.1, RoundIn.mono h.2 fun e w'' he => ?_⟩
        cases e with
        | returned u => exact ⟨keep a u, by rw [← Act.put_comm a v u h2]; exact he⟩
        | panicked c => exact absurd he (hQ _ _ _)
        | outgrown => exact he
    | halt x w' =>
      cases x <;> simp only [Oper.uponIn] at h ⊢
      case panic u => exact absurd h (hQ _ _ _)
  · rename_i hw
    simp only [hw] at h
    exact ⟨fun _ _ => trivial, keep a _, by rw [← Act.put_comm a v undef h2]; exact h.2⟩

/-- i comes ahead of j, by some chain -/
inductive Pre (ops : Array Oper) : Nat → Nat → Prop
  | one {i j : Nat} {o : Oper} {e : Edge} (h : ops[j]? = some o) (he : e ∈ o.after) (hb : Region.binds .any e = true) (hi : e.on = i) : Pre ops j i
  | step {i j : Nat} {o : Oper} {e : Edge} (h : ops[j]? = some o) (he : e ∈ o.after) (hb : Region.binds .any e = true) (hi : Pre ops e.on i) : Pre ops j i

/-- what is listed has all that comes ahead of it listed -/
def Clo (ops : Array Oper) (listed : Array Bool) : Prop :=
  ∀ j o, listed.getD j false = true → ops[j]? = some o → ∀ e ∈ o.after, Region.binds .any e = true → listed.getD e.on false = true

theorem Clo.pre {listed : Array Bool} (h : Clo ops listed) {j i : Nat} (hp : Pre ops j i) (hj : ∀ o, ops[j]? = some o → ∀ e ∈ o.after, Region.binds .any e = true → listed.getD e.on false = true) : listed.getD i false = true := by
  induction hp with
  | one h1 he hb hi => rw [← hi]; exact hj _ h1 _ he hb
  | step h1 he hb _ ih => exact ih fun o ho e' he' hb' => h _ o (hj _ h1 _ he hb) ho e' he' hb'

theorem Clo.mark {listed : Array Bool} (h : Clo ops listed) {j : Nat} (hj : ∀ o, ops[j]? = some o → ∀ e ∈ o.after, Region.binds .any e = true → listed.getD e.on false = true) : Clo ops (listed.setIfInBounds j true) := by
  intro i o hi ho e he hb
  by_cases hij : j = i
  · subst hij; exact getD_set_true (hj o ho e he hb)
  · rw [getD_set_ne false hij] at hi; exact getD_set_true (h i o hi ho e he hb)

/-- an operation that only reads may be taken first -/
theorem take {i : Nat} {oi : Oper} {v : Value} (hi : ops[i]? = some oi) (hok : ∀ (j : Nat) (o : Oper), ops[j]? = some o → okOp o = true) (hQ : ∀ c a w, ¬ Q (.panic c) a w) :
    ∀ (fuel : Nat) (listed : Array Bool) (a : Act) (w : World),
      (∀ j oj, ops[j]? = some oj → j ≠ i → listed.getD j true = false → Pre ops j i ∨ (oi.apart ops oj = true ∧ (isLoad oi = true → (isFree oj || memN xs j) = true))) → Clo ops listed →
      i ∈ Region.ready .any ops listed → RdY P D ops oi v a w →
      wpAE P D ro ops xs Q fuel (listed.setIfInBounds i true) (a.put oi.dst v) w → wpAE P D ro ops xs Q (fuel + 1) listed a w := by
  intro fuel
  induction fuel with
  | zero =>
    intro listed a w _ _ hr hy H
    refine ⟨fun h => (by rw [h] at hr; cases hr), fun j hj => ?_⟩
    by_cases hji : j = i
    · subst hji; exact hy.op hi (hok _ _ hi) ⟨fun _ => Chg.refl _ _, H⟩
    · have := ready_mono hj hji
      rw [H.1] at this
      cases this
  | succ fuel ih =>
    intro listed a w hfree hclo hr hy H
    refine ⟨fun h => (by rw [h] at hr; cases hr), fun j hj => ?_⟩
    by_cases hji : j = i
    · subst hji; exact hy.op hi (hok _ _ hi) ⟨fun _ => Chg.refl _ _, H⟩
    · have h1 := H.2 j (ready_mono hj hji)
      obtain ⟨hjun, oj, hoj, hall⟩ := mem_ready.1 hj
      have hun : listed.getD i false = false := by
        have h0 := (mem_ready.1 hr).1
        rcases Nat.lt_or_ge i listed.size with h' | h'
        · simp [h'] at h0 ⊢; exact h0
        · simp [Array.getElem?_eq_none h']
      have hj2 : ∀ o, ops[j]? = some o → ∀ e ∈ o.after, Region.binds .any e = true → listed.getD e.on false = true := fun o ho e he hb => by
        rw [hoj] at ho; cases ho; exact hall e he hb
      have hnot : ¬ Pre ops j i := fun hp => by rw [hclo.pre hp hj2] at hun; cases hun
      obtain ⟨hap, hext⟩ := (hfree j oj hoj hji hjun).resolve_left hnot
      have h2 := put_op hoj hap (hok _ _ hi) (hok _ _ hoj) hQ h1
      have hfree' : ∀ k ok, ops[k]? = some ok → k ≠ i → (listed.setIfInBounds j true).getD k true = false →
          Pre ops k i ∨ (oi.apart ops ok = true ∧ (isLoad oi = true → (isFree ok || memN xs k) = true)) := fun k ok hk hki hun => by
        refine hfree k ok hk hki ?_
        by_cases hjk : j = k
        · subst hjk; exact hjun
        · rw [getD_set_ne true hjk] at hun; exact hun
      refine wpOpIn_mono (fun a' w' h3 => ⟨fun hx => h3.2.1 hx, ih (listed.setIfInBounds j true) a' w' hfree' (hclo.mark hj2) (ready_mono hr (Ne.symm hji)) (hy.same h3.1.1 h3.1.2 fun hl => h3.2.1 ⟨oj, hoj, hext hl⟩) ?_⟩) h2
      rw [Array.setIfInBounds_comm _ _ hji]
      exact h3.2.2

theorem befE_spec {acc : List Nat} {j : Nat} {o : Oper} (hj : ops[j]? = some o) (hacc : ∀ k i, (acc.getD k 0).testBit i = true → Pre ops k i) : ∀ (l : List Edge) (m : Nat), (∀ e, e ∈ l → e ∈ o.after) → (∀ i, m.testBit i = true → Pre ops j i) →
    ∀ i, (befE acc l m).testBit i = true → Pre ops j i
  | [], _, _, hm, i, h => hm i h
  | e :: l, m, hl, hm, i, h => by
    refine befE_spec hj hacc l _ (fun e' he' => hl e' (List.mem_cons_of_mem _ he')) ?_ i h
    intro i h
    cases hb : Region.binds .any e with
    | false => rw [hb] at h; exact hm i h
    | true =>
      rw [hb, cond_true, Nat.testBit_or, Nat.testBit_or] at h
      simp only [Bool.or_eq_true] at h
      rcases h with (h | h) | h
      · exact hm i h
      · rw [Nat.testBit_two_pow] at h
        exact .one hj (hl e (List.mem_cons_self ..)) hb (by simpa using h)
      · exact .step hj (hl e (List.mem_cons_self ..)) hb (hacc _ _ h)

theorem befs_spec : ∀ (l : List Oper) (acc : List Nat), (∀ k o, l[k]? = some o → ops[acc.length + k]? = some o) → (∀ k i, (acc.getD k 0).testBit i = true → Pre ops k i) →
    ∀ k i, ((befs l acc).getD k 0).testBit i = true → Pre ops k i
  | [], _, _, hacc => hacc
  | o :: l, acc, hl, hacc => by
    refine befs_spec l _ (fun k o' hk => ?_) ?_
    · have := hl (k + 1) o' (by simpa using hk)
      simpa [Nat.add_assoc, Nat.add_comm 1 k] using this
    · intro k i h
      by_cases hk : k < acc.length
      · simp only [List.getD_eq_getElem?_getD, List.getElem?_append_left hk] at h
        exact hacc k i (by simpa [List.getD_eq_getElem?_getD] using h)
      · by_cases hk2 : k = acc.length
        · subst hk2
          simp only [List.getD_eq_getElem?_getD, List.getElem?_append_right (Nat.le_refl _), Nat.sub_self, List.getElem?_cons_zero, Option.getD_some] at h
          exact befE_spec (hl 0 o rfl) hacc _ 0 (fun e he => by simpa using he) (fun i hi => by simp at hi) i h
        · rw [List.getD_eq_getElem?_getD, List.getElem?_eq_none (by simp; omega)] at h
          simp at h

theorem run_pure_free {L : Lay} {n : Nat} {c : World} {QX : Exit → St → Hp → Prop} (hL : LayOk L P) {o : Oper} {s : St} {k : St → X} {h : Hp} (hw : (opF L n D o s k).wp c P ro n h QX) {a : Act} {w : World} (ha : Rel n a s) (hh : w.heap = h) :
    ∃ v, (∀ w', (isLoad o = true → Chg D w.heap w'.heap) → (execOp a.eval o).run P w' = .ok (.value v) w') ∧ Rel n (a.put o.dst v) (s.put o.dst v) ∧ (k (s.put o.dst v)).wp c P ro n h QX := by
  subst hh
  unfold opF at hw
  cases hd : okDst n o.dst with
  | false => rw [hd] at hw; exact hw.elim
  | true =>
    rw [hd, cond_true] at hw
    have hs := cl_says (P := P) hL (ev s.ρ) o
    have hput := fun v => ha.put o.dst hd v
    rw [← eval_eq ha] at hw hs
    cases hcl : cl L a.eval o with
    | pure v => rw [hcl] at hw hs; exact ⟨v, fun w' _ => hs w', hput v, hw⟩
    | chk p v => rw [hcl] at hw hs; exact ⟨v, fun w' _ => hs hw.1 w', hput v, hw.2⟩
    | br t x y =>
      rw [hcl] at hw hs
      cases t with
      | true => exact ⟨x, fun w' _ => hs w', hput x, hw.1 rfl⟩
      | false => exact ⟨y, fun w' _ => hs w', hput y, hw.2 rfl⟩
    | load b oo i =>
      rw [hcl] at hw hs
      cases hl : isLoad o with
      | false => rw [hl] at hw; exact hw.elim
      | true =>
        rw [hl] at hw
        have hx : ∃ v, Ld w.heap b oo i v ∧ b ∉ D ∧ (k (s.put o.dst v)).wp c P ro n w.heap QX := by
          cases D with
          | nil => obtain ⟨v, hv, hw⟩ := hw; exact ⟨v, hv, by simp, hw⟩
          | cons d D => obtain ⟨hd, v, hv, hw⟩ := hw; exact ⟨v, hv, hd, hw⟩
        obtain ⟨v, hv, hd, hw⟩ := hx
        exact ⟨v, fun w' hx => hs w' v (Ld.chg (hx rfl) hv hd), hput v, hw⟩
    | _ => rw [hcl] at hw; exact hw.elim

theorem free_y {L : Lay} {n : Nat} {c : World} {QX : Exit → St → Hp → Prop} (hL : LayOk L P) {o : Oper} {s : St} {k : St → X} {h : Hp} (hw : (gF L n D ops o s k).wp c P ro n h QX) {a : Act} {w : World} (ha : Rel n a s) (hh : w.heap = h) :
    ∃ v s', RdY P D ops o v a w ∧ Rel n (a.put o.dst v) s' ∧ (k s').wp c P ro n h QX := by
  unfold gF at hw
  cases hg : o.guard with
  | none =>
    rw [hg] at hw
    obtain ⟨v, h1, h2, h3⟩ := run_pure_free hL hw ha hh
    exact ⟨v, _, .inl ⟨by simp [Region.wanted, hg], h1⟩, h2, h3⟩
  | some jb =>
    obtain ⟨j, b⟩ := jb
    rw [hg] at hw
    simp only at hw
    cases hd : (ops[j]?).bind (·.dst) with
    | none => rw [hd] at hw; exact hw.elim
    | some d =>
      rw [hd] at hw
      simp only at hw
      cases hn : Nat.blt d n with
      | false => rw [hn] at hw; exact hw.elim
      | true =>
        rw [hn, cond_true] at hw
        have hdn : d < n := by simpa [Nat.blt_eq] using hn
        have hcell : a.tmps[d]? = some (s.ρ d) := by
          have h1 := ha.2.2 d
          have h2 : d < a.tmps.size := by rw [ha.1]; exact hdn
          simp only [Array.getD_eq_getD_getElem?, Array.getElem?_eq_getElem h2, Option.getD_some] at h1
          rw [Array.getElem?_eq_getElem h2, h1]
        have hy : yielded ops a.tmps j = (match s.ρ d with | .bool b => some b | _ => none) := by
          unfold yielded
          rw [hd]
          simp only [Option.bind_some, hcell]
          split <;> rename_i hx <;> simp only [Option.some.injEq] at hx <;> first | (rw [hx]) | (split <;> simp_all)
        cases hv : s.ρ d with
        | bool t =>
          rw [hv] at hw hy
          simp only at hw hy
          have ha1 : Rel n a ⟨upd s.ρ d (.bool t), s.ds⟩ := by rw [upd_same hv]; exact ha
          have skip : ∀ b', okDst n o.dst = true → ((k (St.put ⟨upd s.ρ d (.bool t), s.ds⟩ o.dst undef)).wp c P ro n h QX) → b' ≠ t → b = b' →
              ∃ v s', RdY P D ops o v a w ∧ Rel n (a.put o.dst v) s' ∧ (k s').wp c P ro n h QX := by
            intro b' hok hk hne hb
            refine ⟨undef, _, .inr ⟨?_, rfl⟩, ha1.put _ hok _, hk⟩
            simp only [Region.wanted, hg, hy, hb]
            cases b' <;> cases t <;> simp_all
          have doit : b = t → ((opF L n D o ⟨upd s.ρ d (.bool t), s.ds⟩ k).wp c P ro n h QX) → ∃ v s', RdY P D ops o v a w ∧ Rel n (a.put o.dst v) s' ∧ (k s').wp c P ro n h QX := by
            intro hb hk
            obtain ⟨v, h1, h2, h3⟩ := run_pure_free hL hk ha1 hh
            refine ⟨v, _, .inl ⟨?_, h1⟩, h2, h3⟩
            simp only [Region.wanted, hg, hy, hb]
            cases t <;> rfl
          cases t with
          | true =>
            have hw := hw.1 rfl
            cases b with
            | true => exact doit rfl hw
            | false =>
              simp only [cond_false] at hw
              cases hok : okDst n o.dst with
              | false => rw [hok] at hw; exact hw.elim
              | true => rw [hok] at hw; exact skip false hok hw (by simp) rfl
          | false =>
            have hw := hw.2 rfl
            cases b with
            | false => exact doit rfl hw
            | true =>
              simp only [cond_true] at hw
              cases hok : okDst n o.dst with
              | false => rw [hok] at hw; exact hw.elim
              | true => rw [hok] at hw; exact skip true hok hw (by simp) rfl
        | tuple vs =>
          rw [hv] at hw hy
          simp only at hw hy
          cases hok : okDst n o.dst with
          | false => rw [hok] at hw; exact hw.elim
          | true =>
            rw [hok] at hw
            refine ⟨undef, _, .inr ⟨?_, rfl⟩, ha.put _ hok _, hw⟩
            simp only [Region.wanted, hg, hy]
            cases b <;> rfl
        | _ => rw [hv] at hw; exact hw.elim

theorem readyL_eq (listed : Array Bool) : readyL ops.toList listed.toList = Region.ready .any ops listed := by
  unfold readyL Region.ready
  simp only [Array.length_toList]
  congr 1
  funext i
  simp [Array.getD_eq_getD_getElem?, List.getD_eq_getElem?_getD, ← Array.all_toList]

theorem freeOk_spec {listed : Array Bool} {i : Nat} {oi : Oper} (h : freeOk ops xs (befs ops.toList []) listed.toList i oi = true) :
    ∀ j oj, ops[j]? = some oj → j ≠ i → listed.getD j true = false → Pre ops j i ∨ (oi.apart ops oj = true ∧ (isLoad oi = true → (isFree oj || memN xs j) = true)) := by
  intro j oj hj hne hun
  unfold freeOk at h
  simp only [Bool.and_eq_true, List.all_eq_true, List.mem_range] at h
  have h1 := h.2 j (Array.getElem?_eq_some_iff.1 hj).1
  simp only [hj, Bool.or_eq_true, beq_iff_eq] at h1
  rcases h1 with ((h1 | h1) | h1) | h1
  · exact absurd h1 hne
  · simp only [Array.getD_eq_getD_getElem?, List.getD_eq_getElem?_getD, Array.getElem?_toList] at h1 hun
    rw [hun] at h1; cases h1
  · exact .inl (befs_spec ops.toList [] (fun k o hk => by simpa using hk) (fun k i hx => by simp at hx) j i h1)
  · simp only [Bool.and_eq_true, Bool.or_eq_true, Bool.not_eq_true'] at h1
    refine .inr ⟨h1.1, fun hl => ?_⟩
    rcases h1.2 with (h2 | h2) | h2
    · rw [h2] at hl; cases hl
    · simp [h2]
    · simp [h2]

theorem markL_eq (listed : Array Bool) (i : Nat) : markL listed.toList i = (listed.setIfInBounds i true).toList := by simp [markL]

theorem draw_walk {L : Lay} {n : Nat} {c : World} {QX : Exit → St → Hp → Prop} (hL : LayOk L P) (hok : ∀ (j : Nat) (o : Oper), ops[j]? = some o → okOp o = true) (hQ : ∀ c a w, ¬ Q (.panic c) a w) (k : St → X)
    (hfin : ∀ s a w, Rel n a s → Ctx c w → (k s).wp c P ro n w.heap QX → Q .normal a w) :
    ∀ (ord : Ord) (fuel : Nat) (listed : Array Bool) (s : St) (a : Act) (w : World), depth ord ≤ fuel → okOrd ops xs (befs ops.toList []) ord listed.toList = true → okAlt ops ord listed.toList true = true → Clo ops listed →
      (drawX L n D ops xs ord s k).wp c P ro n w.heap QX → Rel n a s → Ctx c w → wpAE P D ro ops xs Q fuel listed a w
  | .fin, fuel, listed, s, a, w, _, h1, _, _, hw, ha, hc => by
    have hr : Region.ready .any ops listed = [] := by
      rw [← readyL_eq]
      simpa [okOrd] using h1
    have hq := hfin s a w ha hc hw
    cases fuel with
    | zero => exact ⟨hr, hq⟩
    | succ f => exact ⟨fun _ => hq, by rw [hr]; simp⟩
  | .free i r, fuel, listed, s, a, w, hd, h1, h2, hclo, hw, ha, hc => by
    obtain ⟨f, rfl⟩ : ∃ f, fuel = f + 1 := ⟨fuel - 1, by simp only [depth] at hd; omega⟩
    simp only [okOrd, Bool.and_eq_true] at h1
    simp only [drawX] at hw
    cases hi : ops[i]? with
    | none => rw [hi] at hw; exact hw.elim
    | some o =>
      rw [hi] at hw h1
      obtain ⟨v, s', hy, hr, hk⟩ := free_y hL (k := fun s' => drawX L n D ops xs r s' k) hw ha rfl
      have hrd : i ∈ Region.ready .any ops listed := by rw [← readyL_eq]; simpa using h1.1.1
      have hj2 : ∀ o, ops[i]? = some o → ∀ e ∈ o.after, Region.binds .any e = true → listed.getD e.on false = true := fun o ho e he hb => by
        obtain ⟨_, o', ho', hall⟩ := mem_ready.1 hrd
        rw [ho'] at ho; cases ho; exact hall e he hb
      refine take hi hok hQ f listed a w (freeOk_spec h1.1.2) hclo hrd hy ?_
      refine draw_walk hL hok hQ k hfin r f _ s' _ w (by simp only [depth] at hd; omega) (by rw [← markL_eq]; exact h1.2) (by rw [← markL_eq]; exact h2) (hclo.mark hj2) hk hr hc
  | .alt i r next, fuel, listed, s, a, w, hd, h1, h2, hclo, hw, ha, hc => by
    obtain ⟨f, rfl⟩ : ∃ f, fuel = f + 1 := ⟨fuel - 1, by simp only [depth] at hd; omega⟩
    have hset : Region.ready .any ops listed = i :: altSet next := by
      rw [← readyL_eq]
      simp only [okAlt, Bool.and_eq_true, Bool.not_true, Bool.false_or, beq_iff_eq] at h2
      exact h2.1.1
    have one : ∀ (i : Nat) (r : Ord), i ∈ Region.ready .any ops listed → depth r + 1 ≤ f + 1 → okOrd ops xs (befs ops.toList []) r (markL listed.toList i) = true → okAlt ops r (markL listed.toList i) true = true →
        ((match ops[i]? with | some o => gX L n ops (bif isFree o || memN xs i then some D else none) o s fun s' => drawX L n D ops xs r s' k | none => .fail) : X).wp c P ro n w.heap QX →
        wpOpIn (Fe ro) 0 P ops Q i (fun a' w' => ((∃ o, ops[i]? = some o ∧ (isFree o || memN xs i) = true) → Chg D w.heap w'.heap) ∧ wpAE P D ro ops xs Q f (listed.setIfInBounds i true) a' w') a w := by
      intro i r hrd hd h1 h2 hw
      have hj2 : ∀ o, ops[i]? = some o → ∀ e ∈ o.after, Region.binds .any e = true → listed.getD e.on false = true := fun o ho e he hb => by
        obtain ⟨_, o', ho', hall⟩ := mem_ready.1 hrd
        rw [ho'] at ho; cases ho; exact hall e he hb
      unfold wpOpIn
      cases hi : ops[i]? with
      | none => rw [hi] at hw; exact hw.elim
      | some o =>
        rw [hi] at hw
        refine g_sound hL (k := fun s' => drawX L n D ops xs r s' k) hw ha rfl hc _ Q fun a' w' s' hr hc' hchg hk => ?_
        refine ⟨fun ⟨o', ho, hx⟩ => (by cases ho; rw [hx] at hchg; exact hchg), ?_⟩
        exact draw_walk hL hok hQ k hfin r f _ s' a' w' (by omega) (by rw [← markL_eq]; exact h1) (by rw [← markL_eq]; exact h2) (hclo.mark hj2) hk hr hc'
    refine ⟨fun hx => absurd (hset.symm.trans hx) (by simp), fun j hj => ?_⟩
    have hjr := hj
    rw [hset] at hj
    simp only [okOrd, Bool.and_eq_true] at h1
    simp only [okAlt, Bool.and_eq_true] at h2
    simp only [depth] at hd
    have hX : (((match ops[i]? with | some o => gX L n ops (bif isFree o || memN xs i then some D else none) o s fun s' => drawX L n D ops xs r s' k | none => .fail) : X).wp c P ro n w.heap QX) ∧
        ((∃ i' r' n', next = .alt i' r' n') → (drawX L n D ops xs next s k).wp c P ro n w.heap QX) := by
      cases next with
      | non => exact ⟨hw, fun ⟨_, _, _, h⟩ => by cases h⟩
      | fin => exact ⟨hw.1, fun ⟨_, _, _, h⟩ => by cases h⟩
      | free _ _ => exact ⟨hw.1, fun ⟨_, _, _, h⟩ => by cases h⟩
      | alt _ _ _ => exact ⟨hw.1, fun _ => hw.2⟩
    rcases List.mem_cons.1 hj with rfl | hj
    · exact one j r hjr (by omega) h1.1 h2.1.2 hX.1
    · -- one of the others
      have rest : ∀ (m : Ord), depth m ≤ f + 1 → okAlt ops m listed.toList false = true → ((∃ i' r' n', m = .alt i' r' n') → okOrd ops xs (befs ops.toList []) m listed.toList = true) →
          ((∃ i' r' n', m = .alt i' r' n') → (drawX L n D ops xs m s k).wp c P ro n w.heap QX) → j ∈ altSet m →
          wpOpIn (Fe ro) 0 P ops Q j (fun a' w' => ((∃ o, ops[j]? = some o ∧ (isFree o || memN xs j) = true) → Chg D w.heap w'.heap) ∧ wpAE P D ro ops xs Q f (listed.setIfInBounds j true) a' w') a w := by
        intro m
        induction m with
        | fin => intro _ _ _ _ hj; cases hj
        | free _ _ _ => intro _ _ _ _ hj; cases hj
        | non => intro _ _ _ _ hj; cases hj
        | alt i' r' n' _ ih =>
          intro hd h2 h1 hw hj
          have h1 := h1 ⟨_, _, _, rfl⟩
          have hw := hw ⟨_, _, _, rfl⟩
          simp only [okOrd, Bool.and_eq_true] at h1
          simp only [okAlt, Bool.and_eq_true] at h2
          simp only [depth] at hd
          have hX : (((match ops[i']? with | some o => gX L n ops (bif isFree o || memN xs i' then some D else none) o s fun s' => drawX L n D ops xs r' s' k | none => .fail) : X).wp c P ro n w.heap QX) ∧
              ((∃ i2 r2 n2, n' = .alt i2 r2 n2) → (drawX L n D ops xs n' s k).wp c P ro n w.heap QX) := by
            cases n' with
            | non => exact ⟨hw, fun ⟨_, _, _, h⟩ => by cases h⟩
            | fin => exact ⟨hw.1, fun ⟨_, _, _, h⟩ => by cases h⟩
            | free _ _ => exact ⟨hw.1, fun ⟨_, _, _, h⟩ => by cases h⟩
            | alt _ _ _ => exact ⟨hw.1, fun _ => hw.2⟩
          rcases List.mem_cons.1 hj with rfl | hj
          · exact one j r' hjr (by omega) h1.1 h2.1.2 hX.1
          · exact ih (by omega) h2.2 (fun ⟨_, _, _, he⟩ => by rw [he] at h1 ⊢; exact h1.2) hX.2 hj
      refine rest next (by omega) h2.2 (fun ⟨_, _, _, he⟩ => by rw [he] at h1 ⊢; exact h1.2) hX.2 hj

theorem opsMod_mem : ∀ (l : List Oper) (o : Oper) (t : Nat), o ∈ l → o.dst = some t → opsMod l t = true
  | [], _, _, h, _ => by cases h
  | x :: l, o, t, h, hd => by
    simp only [opsMod, Bool.or_eq_true]
    rcases List.mem_cons.1 h with rfl | h
    · left; rw [hd]; exact Nat.beq_refl t
    · right; exact opsMod_mem l o t h hd

section mono
variable {L : Lay} {n : Nat} {c : World} {M : Nat → Bool} {QX QX' : Exit → St → Hp → Prop}

theorem opF_mono {o : Oper} {s : St} {k k' : St → X} {h : Hp} (hM : ∀ t, o.dst = some t → M t = true)
    (hk : ∀ s' h', Agr M s s' → s'.ds = s.ds → (k s').wp c P ro n h' QX → (k' s').wp c P ro n h' QX') (hw : (opF L n D o s k).wp c P ro n h QX) : (opF L n D o s k').wp c P ro n h QX' := by
  unfold opF at hw ⊢
  cases hd : okDst n o.dst with
  | false => rw [hd] at hw; exact hw.elim
  | true =>
    rw [hd, cond_true] at hw
    rw [cond_true]
    have hp := fun v => Agr.put (M := M) s o.dst v hM
    have hds := fun v => Fr.ds_put s o.dst v
    cases hcl : cl L (ev s.ρ) o with
    | pure v => rw [hcl] at hw; exact hk _ _ (hp _) (hds _) hw
    | chk p v => rw [hcl] at hw; exact ⟨hw.1, hk _ _ (hp _) (hds _) hw.2⟩
    | br t x y => rw [hcl] at hw; exact ⟨fun ht => hk _ _ (hp _) (hds _) (hw.1 ht), fun ht => hk _ _ (hp _) (hds _) (hw.2 ht)⟩
    | load b oo i =>
      rw [hcl] at hw
      cases hl : isLoad o with
      | false => rw [hl] at hw; exact hw.elim
      | true =>
        rw [hl] at hw
        cases D with
        | nil => obtain ⟨v, h1, h2⟩ := hw; exact ⟨v, h1, hk _ _ (hp _) (hds _) h2⟩
        | cons d D => obtain ⟨h0, v, h1, h2⟩ := hw; exact ⟨h0, v, h1, hk _ _ (hp _) (hds _) h2⟩
    | _ => rw [hcl] at hw; exact hw.elim

theorem gF_mono {o : Oper} {s : St} {k k' : St → X} {h : Hp} (hM : ∀ t, o.dst = some t → M t = true)
    (hk : ∀ s' h', Agr M s s' → s'.ds = s.ds → (k s').wp c P ro n h' QX → (k' s').wp c P ro n h' QX') (hw : (gF L n D ops o s k).wp c P ro n h QX) : (gF L n D ops o s k').wp c P ro n h QX' := by
  unfold gF at hw ⊢
  cases hg : o.guard with
  | none => rw [hg] at hw; exact opF_mono hM hk hw
  | some jb =>
    obtain ⟨j, b⟩ := jb
    rw [hg] at hw
    simp only at hw ⊢
    cases hd : (ops[j]?).bind (·.dst) with
    | none => rw [hd] at hw; exact hw.elim
    | some d =>
      rw [hd] at hw
      simp only at hw ⊢
      cases hn : Nat.blt d n with
      | false => rw [hn] at hw; exact hw.elim
      | true =>
        rw [hn, cond_true] at hw
        rw [cond_true]
        cases hv : s.ρ d with
        | bool t =>
          rw [hv] at hw
          simp only at hw ⊢
          have h1 : ∀ t' : Bool, t = t' → Agr M s ⟨upd s.ρ d (.bool t'), s.ds⟩ := fun t' ht => by rw [upd_same (by rw [hv, ht])]; exact Agr.refl _ _
          have hskip : ∀ t' : Bool, t = t' → (bif okDst n o.dst then k (St.put ⟨upd s.ρ d (.bool t'), s.ds⟩ o.dst undef) else .fail).wp c P ro n h QX →
              (bif okDst n o.dst then k' (St.put ⟨upd s.ρ d (.bool t'), s.ds⟩ o.dst undef) else .fail).wp c P ro n h QX' := fun t' ht hx => by
            cases hok : okDst n o.dst with
            | false => rw [hok] at hx; exact hx.elim
            | true => rw [hok] at hx; exact hk _ _ ((h1 t' ht).trans (Agr.put _ _ _ hM)) (Fr.ds_put _ _ _) hx
          have hdo : ∀ t' : Bool, t = t' → (opF L n D o ⟨upd s.ρ d (.bool t'), s.ds⟩ k).wp c P ro n h QX → (opF L n D o ⟨upd s.ρ d (.bool t'), s.ds⟩ k').wp c P ro n h QX' := fun t' ht hx =>
            opF_mono hM (fun s' h' ha hds hx => hk s' h' ((h1 t' ht).trans ha) hds hx) hx
          refine ⟨fun ht => ?_, fun ht => ?_⟩
          · have hx := hw.1 ht
            cases b with
            | true => exact hdo _ ht hx
            | false => exact hskip _ ht hx
          · have hx := hw.2 ht
            cases b with
            | true => exact hskip _ ht hx
            | false => exact hdo _ ht hx
        | tuple vs =>
          rw [hv] at hw
          simp only at hw ⊢
          cases hok : okDst n o.dst with
          | false => rw [hok] at hw; exact hw.elim
          | true => rw [hok] at hw; exact hk _ _ (Agr.put _ _ _ hM) (Fr.ds_put _ _ _) hw
        | _ => rw [hv] at hw; exact hw.elim

theorem drawX_mono {k k' : St → X} (hM : ∀ (i : Nat) (o : Oper), ops[i]? = some o → ∀ t, o.dst = some t → M t = true) : ∀ (ord : Ord) (s : St) (h : Hp),
    (∀ s' h', Agr M s s' → s'.ds = s.ds → (k s').wp c P ro n h' QX → (k' s').wp c P ro n h' QX') → (drawX L n D ops xs ord s k).wp c P ro n h QX → (drawX L n D ops xs ord s k').wp c P ro n h QX'
  | .fin, s, h, hk, hw => hk s h (Agr.refl _ _) rfl hw
  | .free i r, s, h, hk, hw => by
    simp only [drawX] at hw ⊢
    cases hi : ops[i]? with
    | none => rw [hi] at hw; exact hw.elim
    | some o =>
      rw [hi] at hw
      exact gF_mono (hM i o hi) (fun s' h' ha hds hx => drawX_mono hM r s' h' (fun s2 h2 ha2 hds2 hx2 => hk s2 h2 (ha.trans ha2) (hds2.trans hds) hx2) hx) hw
  | .alt i r next, s, h, hk, hw => by
    have one : ((match ops[i]? with | some o => gX L n ops (bif isFree o || memN xs i then some D else none) o s fun s' => drawX L n D ops xs r s' k | none => .fail) : X).wp c P ro n h QX →
        ((match ops[i]? with | some o => gX L n ops (bif isFree o || memN xs i then some D else none) o s fun s' => drawX L n D ops xs r s' k' | none => .fail) : X).wp c P ro n h QX' := by
      intro hw
      cases hi : ops[i]? with
      | none => rw [hi] at hw; exact hw.elim
      | some o =>
        rw [hi] at hw
        exact g_mono (hM i o hi) (fun s' h' ha hds hx => drawX_mono hM r s' h' (fun s2 h2 ha2 hds2 hx2 => hk s2 h2 (ha.trans ha2) (hds2.trans hds) hx2) hx) hw
    cases next with
    | non => exact one hw
    | fin => exact ⟨one hw.1, drawX_mono hM _ s h hk hw.2⟩
    | free _ _ => exact ⟨one hw.1, drawX_mono hM _ s h hk hw.2⟩
    | alt _ _ _ => exact ⟨one hw.1, drawX_mono hM _ s h hk hw.2⟩
  | .non, _, _, _, hw => hw.elim
end mono

theorem wp_draw {L : Lay} {n : Nat} {c : World} {QX : Exit → St → Hp → Prop} (hL : LayOk L P) (hmix : P.follows .mixedOrders = true) {id : Nat} {s : St} {k : St → X} {h : Hp} (ord : Ord) (hok : okDraw ops xs ord = true)
    (hw : (drawX L n D ops xs ord s k).wp c P ro n h QX) : (X.draw id ops s k).wp c P ro n h QX := by
  simp only [okDraw, Bool.and_eq_true, List.all_eq_true] at hok
  obtain ⟨⟨⟨h1, h2⟩, h3⟩, h4⟩ := hok
  intro w a hh hc ha
  subst hh
  have hw2 := drawX_mono (M := opsMod ops.toList) (k' := fun s' => X.done .normal s') (QX' := fun _ s' h' => Agr (opsMod ops.toList) s s' ∧ s'.ds = s.ds ∧ (k s').wp c P ro n h' QX)
    (fun i o hi t ht => opsMod_mem ops.toList o t (by simpa using Array.mem_of_getElem? hi) ht) ord s w.heap (fun s' h' a b x => ⟨a, b, x⟩) hw
  refine wpIn_region_any hmix (wpAE_any (D := D) (xs := xs) _ _ _ _ ?_)
  refine draw_walk hL (fun j o hj => h4 o (by simpa using Array.mem_of_getElem? hj)) (fun c a w hx => by obtain ⟨s', he, _⟩ := hx; cases he) _ (QX := fun _ s' h' => Agr (opsMod ops.toList) s s' ∧ s'.ds = s.ds ∧ (k s').wp c P ro n h' QX) ?_
    ord ops.size _ s a { w with drawn := w.drawn + 1 } (Nat.le_of_ble_eq_true h3) (by simpa using h1) (by simpa using h2) (fun j o hj => by
      exfalso
      simp only [Array.getD_eq_getD_getElem?, Array.getElem?_replicate] at hj
      split at hj <;> cases hj) hw2 ha ⟨hc.os, hc.tape, hc.output⟩
  intro s' a' w' hr hc' hx
  exact ⟨s', rfl, hr, hx.1, hx.2.1, hc', hx.2.2⟩

theorem wp_ord {L : Lay} {n : Nat} {c : World} {QX : Exit → St → Hp → Prop} (hL : LayOk L P) (hmix : P.follows .mixedOrders = true) {id : Nat} {s : St} {k : St → X} {h : Hp} (l : List (Nat × Nat)) (xs : List Nat) (hok : okDraw ops xs (seqO ops (rs l)) = true)
    (hw : (drawX L n [] ops xs (seqO ops (rs l)) s k).wp c P ro n h QX) : (X.draw id ops s k).wp c P ro n h QX := wp_draw hL hmix _ hok hw
theorem wp_ordD {L : Lay} {n : Nat} {c : World} {QX : Exit → St → Hp → Prop} (hL : LayOk L P) (hmix : P.follows .mixedOrders = true) {id : Nat} {s : St} {k : St → X} {h : Hp} (D : List Nat) (l : List (Nat × Nat)) (xs : List Nat) (hok : okDraw ops xs (seqO ops (rs l)) = true)
    (hw : (drawX L n D ops xs (seqO ops (rs l)) s k).wp c P ro n h QX) : (X.draw id ops s k).wp c P ro n h QX := wp_draw hL hmix _ hok hw
end
end Go.Xe
namespace Go.Xe
open Go

def resH (L : Lay) (h : Hp) (ρ : Env) : List ResultVar → List Value → Prop
  | [], [] => True
  | .tmp t :: l, v :: vs => ρ t = v ∧ resH L h ρ l vs
  | .cell a T :: l, v :: vs => (∃ b o i, ρ a = .pointer (some ⟨b, o, none⟩) ∧ L T = some i ∧ Ld h b o i v) ∧ resH L h ρ l vs
  | _, _ => False

def tupV : List Value → Value
  | [v] => v
  | l => .tuple l.toArray

def finMs (L : Lay) (rs : List ResultVar) (R : Value → Hp → Prop) (ρ : Env) : List Deferred → Hp → Prop
  | [], h => ∃ vs, resH L h ρ rs vs ∧ R (tupV vs) h
  | d :: ds, h => ∃ D, d = { target := .collected D, args := #[] } ∧ h[D]? = some (.deferred (some [])) ∧ ∀ h', Upd h h' D (.deferred none) → finMs L rs R ρ ds h'

def finM (L : Lay) (rs : List ResultVar) (R : Value → Hp → Prop) : Exit → St → Hp → Prop
  | .ret, s, h => finMs L rs R s.ρ s.ds h
  | .normal, s, h => finMs L rs R s.ρ s.ds h
  | _, _, _ => False

theorem putObj_upd (w : World) (r : Nat) (o : Obj) (hr : r < w.heap.size) : Upd w.heap (w.putObj r o).heap r o := ⟨World.putObj_size, World.putObj_heap_same hr, fun _ hj => World.putObj_heap_other hj⟩

section
variable {L : Lay} {P : Program} {c : World} {n : Nat} {h : Hp} {Q : Exit → St → Hp → Prop}

theorem results_cells (hL : LayOk L P) (fn : Func) (tmps : Array Value) (ρ : Env) (hρ : ∀ t, tmps.getD t undef = ρ t) (w : World) (vs : List Value) (hr : resH L w.heap ρ fn.results.toList vs) :
    (results fn tmps).run P w = .ok (tupV vs) w := by
  have key : ∀ (F : ResultVar → Sem Value) (l : List ResultVar) (vs : List Value), (∀ t, F (.tmp t) = pure (tmps.getD t undef)) → (∀ a T, F (.cell a T) = do loadVar T (← asAddr (tmps.getD a undef))) →
      resH L w.heap ρ l vs → (l.mapM F).run P w = .ok vs w := by
    intro F l
    induction l with
    | nil => intro vs _ _ hv; cases vs with | nil => rfl | cons _ _ => exact hv.elim
    | cons r l ih =>
      intro vs h1 h2 hv
      cases vs with
      | nil => cases r <;> exact hv.elim
      | cons v vs =>
        cases r with
        | tmp t =>
          obtain ⟨hv, hr⟩ := hv
          simp only [List.mapM_cons, Sem.run_bind, h1, Sem.run_pure, Result.andThen_ok, ih vs h1 h2 hr, hρ, hv]
        | cell a T =>
          obtain ⟨⟨b, o, i, ha, hi, hld⟩, hr⟩ := hv
          simp only [List.mapM_cons, Sem.run_bind, h2, hρ, ha, asAddr, Sem.run_pure, Result.andThen_ok, run_loadVar hL hi hld, ih vs h1 h2 hr]
  unfold results
  rw [Array.mapM_eq_mapM_toList]
  simp only [Sem.run_bind, Sem.run_map]
  rw [key _ fn.results.toList vs (fun _ => rfl) (fun _ _ => rfl) hr]
  simp only [Result.andThen_ok, Sem.run_pure]
  congr 1
  cases vs with
  | nil => rfl
  | cons v l => cases l <;> rfl

theorem leaves_of (hL : LayOk L P) {fn : Func} {R : Value → Hp → Prop} (tmps : Array Value) (ρ : Env) (hρ : ∀ t, tmps.getD t undef = ρ t) :
    ∀ (ds : List Deferred) (w : World), Ctx c w → finMs L fn.results.toList R ρ ds w.heap → LeavesInM Fence.wide 0 P fn tmps (Ret fun v w' => Ctx c w' ∧ R v w'.heap) ds .returning w
  | [], w, hc, hf => by
    obtain ⟨vs, h1, h2⟩ := hf
    exact ⟨_, results_cells hL fn tmps ρ hρ w vs h1, hc, h2⟩
  | d :: ds, w, hc, hf => by
    obtain ⟨D, rfl, hD, hf⟩ := hf
    refine ⟨by simp, .inl ⟨D, _, rfl, run_takeDeferred hD, ?_⟩⟩
    exact leaves_of hL tmps ρ hρ ds _ ⟨hc.os, hc.tape, hc.output⟩ (hf _ (putObj_upd w D _ (Array.getElem?_eq_some_iff.1 hD).1))

theorem call_ofM (hL : LayOk L P) {f : Nat} {fn : Func} (N : Nat) (hf : P.funcs[f]? = some fn) (hN : fn.ntmps = N) (hb : fn.body.isSome = true) (hname : (fn.name == "runtime.NumGoroutine") = false)
    {args : Array Value} (hsz : Nat.ble args.size N = true) {R : Value → Hp → Prop}
    (hw : (pe L N (bodyOf fn) ⟨envOf args.toList, []⟩ X.done).wp c P none N h (finM L fn.results.toList R)) : Call c P f args h R := by
  subst hN
  refine ⟨fun as w => ?_, fun w hh hc => ?_⟩
  · have hb' : fn.body.isNone = false := by cases hx : fn.body <;> simp_all
    simp only [callFunc, Sem.run_bind, run_program, Result.andThen_ok, hf, hname, hb', Bool.false_eq_true, if_false, Sem.run_pure]
  · obtain ⟨cd, hcd⟩ := Option.isSome_iff_exists.1 hb
    subst hh
    have hbo : bodyOf fn = cd := by simp [bodyOf, hcd]
    rw [hbo] at hw
    refine (callsIn_wide (n := 0)).1 (callsIn_of_wp_marks hf hcd trivial (wpIn_mono (pe_sound hL cd _ X.done _ _ w hw ?_ hc) ?_))
    · refine ⟨?_, rfl, fun t => envOf_getD args _ t⟩
      have := Nat.le_of_ble_eq_true hsz
      simp only [Array.size_append, Array.size_replicate]
      omega
    · rintro e a' w' ⟨s', g1, g2, g3⟩
      cases e with
      | ret =>
        have := leaves_of (c := c) hL (fn := fn) (R := R) a'.tmps s'.ρ g1.2.2 s'.ds w' g2 g3
        rw [← g1.2.1] at this
        exact this
      | normal =>
        have := leaves_of (c := c) hL (fn := fn) (R := R) a'.tmps s'.ρ g1.2.2 s'.ds w' g2 g3
        rw [← g1.2.1] at this
        exact this
      | _ => exact g3.elim

theorem finM_at {rs : List ResultVar} {R : Value → Hp → Prop} {s : St} (vs : List Value) (hds : s.ds = []) (hr : resH L h s.ρ rs vs) (hR : R (tupV vs) h) : finM L rs R .ret s h := by
  show finMs L rs R s.ρ s.ds h
  rw [hds]
  exact ⟨vs, hr, hR⟩
theorem finM_n {rs : List ResultVar} {R : Value → Hp → Prop} {s : St} (vs : List Value) (hds : s.ds = []) (hr : resH L h s.ρ rs vs) (hR : R (tupV vs) h) : finM L rs R .normal s h := finM_at vs hds hr hR
theorem finM_mark {rs : List ResultVar} {R : Value → Hp → Prop} {s : St} (D : Nat) (hds : s.ds = [{ target := .collected D, args := #[] }]) (hD : h[D]? = some (.deferred (some [])))
    (hk : ∀ h', Upd h h' D (.deferred none) → ∃ vs, resH L h' s.ρ rs vs ∧ R (tupV vs) h') : finM L rs R .ret s h := by
  show finMs L rs R s.ρ s.ds h
  rw [hds]
  exact ⟨D, rfl, hD, hk⟩

/-- one call of yield -/
def Yield (c : World) (P : Program) (l : Nat) (args : Array Value) (h : Hp) (R : Value → Hp → Prop) : Prop :=
  ∀ w, w.heap = h → Ctx c w → ∃ f tmps as bd, (Instr.yield l args).run P w = .ok (.round l f tmps as bd) w ∧ RoundIn (Fe none) 0 P l f tmps as bd w (Ret fun v w' => Ctx c w' ∧ R v w'.heap)

theorem wp_round {ro : Option Nat} {l : Nat} {args : Array Value} {k : Value → X} {R : Value → Hp → Prop} (hy : Yield c P l args h R) (hk : ∀ v h', R v h' → (k v).wp c P ro n h' Q) :
    (X.round l args k).wp c P ro n h Q := fun w hh hc => by
  obtain ⟨f, tmps, as, bd, h1, h2⟩ := hy w hh hc
  refine ⟨f, tmps, as, bd, h1, RoundIn.mono (F := Fe none) h2 ?_⟩
  intro e w' he
  cases e with
  | returned v => exact ⟨he.1, hk _ _ he.2⟩
  | _ => exact he.elim

/-- the temporaries of a round: the loop's variables are set -/
def setP (ρ : Env) : List Nat → List Value → Env
  | p :: ps, v :: vs => setP (upd ρ p v) ps vs
  | _, _ => ρ

theorem setP_rel (n : Nat) : ∀ (ps : List Nat) (vs : List Value) (T : Array Value) (ρ : Env), T.size = n → (∀ t, T.getD t undef = ρ t) → (ps.all fun p => Nat.blt p n) = true →
    ((ps.zip vs).foldl (fun t (p : Nat × Value) => t.setIfInBounds p.1 p.2) T).size = n ∧ ∀ t, ((ps.zip vs).foldl (fun t (p : Nat × Value) => t.setIfInBounds p.1 p.2) T).getD t undef = setP ρ ps vs t
  | [], vs, T, ρ, h1, h2, _ => by cases vs <;> exact ⟨h1, h2⟩
  | p :: ps, [], T, ρ, h1, h2, _ => ⟨h1, h2⟩
  | p :: ps, v :: vs, T, ρ, h1, h2, hp => by
    simp only [List.all_cons, Bool.and_eq_true] at hp
    have hpn : p < n := by simpa [Nat.blt_eq] using hp.1
    refine setP_rel n ps vs (T.setIfInBounds p v) (upd ρ p v) (by simp [h1]) (fun t => ?_) hp.2
    simp only [upd]
    by_cases ht : t = p
    · subst ht; simp [h1, hpn]
    · have : Nat.beq t p = false := by cases hx : Nat.beq t p with | false => rfl | true => exact absurd (Nat.eq_of_beq_eq_true hx) ht
      rw [this, cond_false, ← h2 t]
      simp [Array.getElem?_setIfInBounds_ne (Ne.symm ht)]

/-- A RANGE OVER A FUNCTION whose body neither breaks nor returns. D: the block of the rounds' deferred calls; l: the loop's record. I i: i elements have come. -/
theorem wp_rangeF (hL : LayOk L P) {g : Operand} {ps : Array Tmp} {as bd : Code} {s : St} {k : Exit → St → X} {gf : Nat} {cap : Array Value} (hg : ev s.ρ g = .func (.func gf) #[] cap)
    (hps : (ps.toList.all fun p => Nat.blt p n) = true) (xs : List (List Value)) (hxs : ∀ x, x ∈ xs → x.length = ps.size) (I : Nat → Hp → Prop)
    (hI : ∀ i h1 h2 o, I i h1 → Upd h1 h2 (h.size + 1) o → I i h2)
    (h0 : ∀ h1, Chg [] h h1 → h1.size = h.size + 2 → I 0 h1)
    (hit : ∀ (J : Nat → Hp → Prop) (h1 : Hp), Chg [] h h1 → (∀ i h, J i h → I i h) → (∀ i x h, xs[i]? = some x → J i h → Yield c P (h1.size - 1) x.toArray h fun v h' => v = .bool true ∧ J (i + 1) h') → J 0 h1 →
      Call c P gf (#[.func (.yield (h1.size - 1)) #[] #[]] ++ cap) h1 fun _ h' => J xs.length h')
    (hbody : ∀ i x h1 d, xs[i]? = some x → I i h1 → h1[h.size + 1]? = some (.loop d) → h1[h.size]? = some (.deferred (some [])) →
      (pe L n as ⟨setP s.ρ ps.toList x, []⟩ X.done).wp c P (some (h.size + 1)) n h1 fun e s1 h2 => e = .normal ∧ s1.ds = [] ∧ h2[h.size + 1]? = h1[h.size + 1]? ∧
        ∀ h3 d', Upd h2 h3 (h.size + 1) (.loop d') → (pe L n bd s1 X.done).wp c P (some (h.size + 1)) n h3 fun e _ h4 => e = .normal ∧ I (i + 1) h4 ∧ h4[h.size + 1]? = h3[h.size + 1]? ∧ h4[h.size]? = some (.deferred (some [])))
    (hk : ∀ h', I xs.length h' → h'[h.size]? = some (.deferred (some [])) → (k .normal ⟨s.ρ, { target := .collected h.size, args := #[] } :: s.ds⟩).wp c P none n h' Q) :
    (X.rangeF g ps as bd s k).wp c P none n h Q := by
  intro w a hh hc ha
  subst hh
  refine wpIn_rangeFunc ?_
  intro fn _
  obtain ⟨rec, hrec⟩ : ∃ rec : LoopState → Option Code → Loop, rec = fun st pe => { state := st, pending := pe, fn, tmps := a.tmps, params := ps, assign := as, body := bd, defers := w.heap.size } := ⟨_, rfl⟩
  obtain ⟨W1, hW1⟩ : ∃ W1, (w.alloc (.deferred (some []))).alloc (.loop (rec .ready none)) = W1 := ⟨_, rfl⟩
  have hsz : W1.heap.size = w.heap.size + 2 := by rw [← hW1]; simp
  have hcW : Ctx c W1 := by rw [← hW1]; exact (hc.alloc _).alloc _
  have hchg : Chg [] w.heap W1.heap := by
    rw [← hW1]
    exact Chg.trans (b := (w.alloc (.deferred (some []))).heap) (New.chg ⟨rfl, rfl⟩ []) (New.chg ⟨rfl, rfl⟩ [])
  have hL1 : W1.heap[w.heap.size + 1]? = some (.loop (rec .ready none)) := by
    rw [← hW1]; have := World.alloc_heap_new (w.alloc (.deferred (some []))) (.loop (rec .ready none)); rwa [World.size_alloc] at this
  have hK1 : W1.heap[w.heap.size]? = some (.deferred (some [])) := by
    rw [← hW1]; exact (Go.RowKit.Below.heap_alloc _ _ _ (by simp)).trans (World.alloc_heap_new w _)
  have hcall := hit (fun i h => I i h ∧ h[w.heap.size + 1]? = some (.loop (rec .ready none)) ∧ h[w.heap.size]? = some (.deferred (some []))) W1.heap hchg (fun i h x => x.1) ?_ ⟨h0 _ hchg hsz, hL1, hK1⟩
  · have hl1 : W1.heap.size - 1 = w.heap.size + 1 := by omega
    rw [hl1] at hcall
    have hgv : a.eval g = .func (.func gf) #[] cap := by rw [eval_eq ha]; exact hg
    refine ⟨w.heap.size + 1, [{ target := .collected w.heap.size, args := #[] }], W1, { target := .fn (.func gf) cap, args := #[.func (.yield (w.heap.size + 1)) #[] #[]] }, W1, gf,
      #[.func (.yield (w.heap.size + 1)) #[] #[]] ++ cap, W1, ?_, ?_, fun _ _ => trivial, ?_, fun h => by simp [Fe, Fence.wide] at h, ?_⟩
    · rw [← hW1, hrec]; exact run_enterLoop_outer _ _ _ _ _
    · simp only [resolve, hgv]
      simp [go_sem]
    · simp only [invoke]; exact hcall.1 _ _
    · have hcc := hcall.2 W1 rfl hcW
      refine CallsIn.mono (R := Ret fun v w' => Ctx c w' ∧ (I xs.length w'.heap ∧ w'.heap[w.heap.size + 1]? = some (.loop (rec .ready none)) ∧ w'.heap[w.heap.size]? = some (.deferred (some [])))) ((callsIn_wide (n := 0 - 1)).2 hcc) ?_
      intro e w3 he
      cases e with
      | returned v =>
        obtain ⟨hc3, hI3, hl3, hk3⟩ := he
        have hend := run_endLoop (P := P) hl3 (by rw [hrec]; simp)
        rw [hrec] at hend
        refine ⟨_, _, hend, ?_⟩
        have hlt := (Array.getElem?_eq_some_iff.1 hl3).1
        have hu := fun o => putObj_upd w3 (w.heap.size + 1) o hlt
        refine ⟨⟨s.ρ, { target := .collected w.heap.size, args := #[] } :: s.ds⟩, ⟨ha.1, by simp [ha.2.1], ha.2.2⟩, fun _ _ => rfl, ⟨hc3.os, hc3.tape, hc3.output⟩, ?_⟩
        refine hk _ (hI _ _ _ _ hI3 (hu _)) (((hu _).other _ (by omega)).trans hk3)
      | _ => exact he.elim
  · -- one round
    have hl1 : W1.heap.size - 1 = w.heap.size + 1 := by omega
    rw [hl1]
    rintro i x h1 hx ⟨hIi, hl, hkD⟩ w1 hw1 hc1
    subst hw1
    have hy := run_yield (P := P) (args := x.toArray) hl (by rw [hrec]; simpa using hxs x (List.mem_of_getElem? hx))
    rw [hrec] at hy
    refine ⟨fn, _, as, bd, hy, roundIn_of_wpIn (F := Fe none) trivial ?_⟩
    have hset := setP_rel n ps.toList x a.tmps s.ρ ha.1 ha.2.2 hps
    have hzip : (ps.zip x.toArray).foldl (fun (tmps : Array Value) (p : Nat × Value) => tmps.setIfInBounds p.1 p.2) a.tmps = (ps.toList.zip x).foldl (fun t (p : Nat × Value) => t.setIfInBounds p.1 p.2) a.tmps := by
      rw [← Array.foldl_toList, Array.toList_zip]
    refine wpIn_mono (pe_sound (ro := some (w.heap.size + 1)) hL as ⟨setP s.ρ ps.toList x, []⟩ X.done _ _ w1 (hbody i x w1.heap _ hx hIi hl hkD) ?_ hc1) ?_
    · refine ⟨?_, rfl, ?_⟩
      · show ((ps.zip x.toArray).foldl (fun (tmps : Array Value) (p : Nat × Value) => tmps.setIfInBounds p.1 p.2) a.tmps).size = n
        rw [hzip]; exact hset.1
      · intro t
        show ((ps.zip x.toArray).foldl (fun (tmps : Array Value) (p : Nat × Value) => tmps.setIfInBounds p.1 p.2) a.tmps).getD t undef = _
        rw [hzip]; exact hset.2 t
    · rintro e a2 w2 ⟨s1, g1, g2, g3⟩
      obtain ⟨rfl, hds, hsame, hb⟩ := g3
      have hl2 : w2.heap[w.heap.size + 1]? = some (.loop (rec .ready none)) := hsame.trans hl
      have hlt2 := (Array.getElem?_eq_some_iff.1 hl2).1
      have hu2 := putObj_upd w2 (w.heap.size + 1) (.loop { rec .ready none with state := .busy }) hlt2
      refine ⟨_, run_beginRound hl2 (by rw [hrec]), ?_⟩
      have hb' := hb _ _ hu2
      have g1' : Rel n a2 s1 := g1
      refine wpIn_mono (pe_sound (ro := some (w.heap.size + 1)) hL bd s1 X.done _ a2 _ hb' g1' ⟨g2.os, g2.tape, g2.output⟩) ?_
      rintro e a3 w3 ⟨_, _, f2, f3⟩
      obtain ⟨rfl, hI4, hsame4, hk4⟩ := f3
      have hl4 : w3.heap[w.heap.size + 1]? = some (.loop { rec .ready none with state := .busy }) := hsame4.trans hu2.here
      have hlt4 := (Array.getElem?_eq_some_iff.1 hl4).1
      refine ⟨_, _, run_endRound none hl4, ⟨f2.os, f2.tape, f2.output⟩, rfl, ?_⟩
      have hu4 := putObj_upd w3 (w.heap.size + 1) (.loop { { rec .ready none with state := .busy } with state := .ready, pending := none }) hlt4
      refine ⟨hI _ _ _ _ hI4 hu4, ?_, (hu4.other _ (by omega)).trans hk4⟩
      have := hu4.here
      rw [hrec] at this ⊢
      exact this
end
end Go.Xe
namespace Go.Xe
open Go

inductive Tr (K V : Type)
  | leaf
  | node (l : Tr K V) (k : K) (v : V) (r : Tr K V)

namespace Tr
variable {K V : Type}
def size : Tr K V → Nat
  | .leaf => 0
  | .node l _ _ r => l.size + r.size + 1
def toL : Tr K V → List (K × V)
  | .leaf => []
  | .node l k v r => l.toL ++ (k, v) :: r.toL
theorem length_toL : ∀ t : Tr K V, t.toL.length = t.size
  | .leaf => rfl
  | .node l k v r => by simp [toL, size, length_toL l, length_toL r]; omega
end Tr

section
variable {K V : Type}
def light (a b : Tr K V) : Bool := decide (b.size + 1 ≤ 3 * (a.size + 1))
def turned (a b : Tr K V) : Bool := decide (a.size + 1 < 2 * (b.size + 1))
def bal (l : Tr K V) (k : K) (v : V) (r : Tr K V) : Tr K V :=
  if light l r = false then match r with
    | .node rl rk rv rr => if turned rl rr = true then .node (.node l k v rl) rk rv rr else match rl with
      | .node ml mk mv mr => .node (.node l k v ml) mk mv (.node mr rk rv rr)
      | .leaf => .leaf
    | .leaf => .leaf
  else if light r l = false then match l with
    | .node ll lk lv lr => if turned lr ll = true then .node ll lk lv (.node lr k v r) else match lr with
      | .node ml mk mv mr => .node (.node ll lk lv ml) mk mv (.node mr k v r)
      | .leaf => .leaf
    | .leaf => .leaf
  else .node l k v r

theorem light_node {l r : Tr K V} (h : light l r = false) : ∃ rl rk rv rr, r = .node rl rk rv rr := by
  cases r with
  | leaf => simp [light, Tr.size] at h
  | node rl rk rv rr => exact ⟨_, _, _, _, rfl⟩
theorem turned_node {a b : Tr K V} (h : turned a b = false) : ∃ rl rk rv rr, a = .node rl rk rv rr := by
  cases a with
  | leaf => simp [turned, Tr.size] at h; omega
  | node rl rk rv rr => exact ⟨_, _, _, _, rfl⟩

theorem toL_bal (l : Tr K V) (k : K) (v : V) (r : Tr K V) : (bal l k v r).toL = l.toL ++ (k, v) :: r.toL := by
  unfold bal
  split
  · rename_i h
    obtain ⟨rl, rk, rv, rr, rfl⟩ := light_node h
    simp only
    split
    · simp [Tr.toL]
    · rename_i ht
      obtain ⟨_, _, _, _, rfl⟩ := turned_node (by simpa using ht)
      simp [Tr.toL]
  · split
    · rename_i h
      obtain ⟨rl, rk, rv, rr, rfl⟩ := light_node h
      simp only
      split
      · simp [Tr.toL]
      · rename_i ht
        obtain ⟨_, _, _, _, rfl⟩ := turned_node (by simpa using ht)
        simp [Tr.toL]
    · rfl
theorem size_bal (l : Tr K V) (k : K) (v : V) (r : Tr K V) : (bal l k v r).size = l.size + r.size + 1 := by
  rw [← Tr.length_toL, toL_bal]
  simp [Tr.length_toL]
  omega

/-- a strict order of the keys, and equality -/
structure LO (lt eq : K → K → Bool) : Prop where
  irr : ∀ a, lt a a = false
  tr : ∀ a b c, lt a b = true → lt b c = true → lt a c = true
  tri : ∀ a b, lt a b = false → lt b a = false → a = b
  eq : ∀ a b, eq a b = true ↔ a = b

def SortedK (lt : K → K → Bool) (xs : List (K × V)) : Prop := xs.Pairwise fun a b => lt a.1 b.1 = true

def putT (lt : K → K → Bool) (k : K) (v : V) : Tr K V → Tr K V
  | .leaf => .node .leaf k v .leaf
  | .node l a b r => if lt k a = true then bal (putT lt k v l) a b r else if lt a k = true then bal l a b (putT lt k v r) else .node l k v r

def insL (lt : K → K → Bool) (k : K) (v : V) : List (K × V) → List (K × V)
  | [] => [(k, v)]
  | (a, b) :: xs => if lt k a = true then (k, v) :: (a, b) :: xs else if lt a k = true then (a, b) :: insL lt k v xs else (k, v) :: xs

def findT (lt eq : K → K → Bool) (k : K) : Tr K V → Tr K V
  | .leaf => .leaf
  | .node l a b r => if eq a k = true then .node l a b r else if lt k a = true then findT lt eq k l else findT lt eq k r

def getL (eq : K → K → Bool) (k : K) : List (K × V) → Option V
  | [] => none
  | (a, b) :: xs => if eq a k = true then some b else getL eq k xs

def delL (eq : K → K → Bool) (k : K) : List (K × V) → List (K × V)
  | [] => []
  | (a, b) :: xs => if eq a k = true then xs else (a, b) :: delL eq k xs

variable {lt eq : K → K → Bool}

theorem insL_left (k : K) (v : V) : ∀ (A : List (K × V)) (a : K) (b : V) (B : List (K × V)), lt k a = true → insL lt k v (A ++ (a, b) :: B) = insL lt k v A ++ (a, b) :: B
  | [], a, b, B, h => by simp [insL, h]
  | (x, y) :: A, a, b, B, h => by
    simp only [List.cons_append, insL]
    split
    · rfl
    · split
      · rw [insL_left k v A a b B h]; rfl
      · rfl

theorem insL_right (hlo : LO lt eq) (k : K) (v : V) : ∀ (A B : List (K × V)), (∀ x, x ∈ A → lt x.1 k = true) → insL lt k v (A ++ B) = A ++ insL lt k v B
  | [], _, _ => rfl
  | (x, y) :: A, B, h => by
    have h1 := h (x, y) (List.mem_cons_self ..)
    have h2 : lt k x = false := by
      cases hx : lt k x with
      | false => rfl
      | true => have := hlo.tr _ _ _ h1 hx; rw [hlo.irr] at this; cases this
    simp only [List.cons_append, insL, h2, Bool.false_eq_true, if_false, h1, if_true]
    rw [insL_right hlo k v A B fun z hz => h z (List.mem_cons_of_mem _ hz)]

theorem sorted_mid {A B : List (K × V)} {k : K} {v : V} (h : SortedK lt (A ++ (k, v) :: B)) : SortedK lt A ∧ SortedK lt B ∧ (∀ x, x ∈ A → lt x.1 k = true) ∧ (∀ x, x ∈ B → lt k x.1 = true) := by
  unfold SortedK at *
  rw [List.pairwise_append] at h
  obtain ⟨h1, h2, h3⟩ := h
  rw [List.pairwise_cons] at h2
  exact ⟨h1, h2.2, fun x hx => h3 x hx (k, v) (List.mem_cons_self ..), fun x hx => h2.1 x hx⟩

theorem toL_putT (hlo : LO lt eq) (k : K) (v : V) : ∀ t : Tr K V, SortedK lt t.toL → (putT lt k v t).toL = insL lt k v t.toL
  | .leaf, _ => rfl
  | .node l a b r, h => by
    obtain ⟨h1, h2, h3, h4⟩ := sorted_mid h
    simp only [putT, Tr.toL]
    split
    · rename_i hk
      rw [toL_bal, toL_putT hlo k v l h1, insL_left k v l.toL a b r.toL hk]
    · rename_i hk
      split
      · rename_i hk2
        rw [toL_bal, toL_putT hlo k v r h2, insL_right hlo k v l.toL _ fun x hx => hlo.tr _ _ _ (h3 x hx) hk2]
        simp [insL, hk, hk2]
      · rename_i hk2
        have : k = a := hlo.tri k a (by simpa using hk) (by simpa using hk2)
        subst this
        simp only [Tr.toL]
        rw [insL_right hlo k v l.toL _ h3]
        simp [insL, hlo.irr]

theorem mem_insL (hlo : LO lt eq) {k : K} {v : V} : ∀ {xs : List (K × V)} {x : K × V}, x ∈ insL lt k v xs → x = (k, v) ∨ x ∈ xs
  | [], x, h => by simpa [insL] using h
  | (a, b) :: xs, x, h => by
    simp only [insL] at h
    split at h
    · rcases List.mem_cons.1 h with h | h
      · exact .inl h
      · exact .inr h
    · split at h
      · rcases List.mem_cons.1 h with h | h
        · exact .inr (h ▸ List.mem_cons_self ..)
        · exact (mem_insL hlo h).imp id (List.mem_cons_of_mem _)
      · rcases List.mem_cons.1 h with h | h
        · exact .inl h
        · exact .inr (List.mem_cons_of_mem _ h)

theorem sorted_insL (hlo : LO lt eq) (k : K) (v : V) : ∀ xs : List (K × V), SortedK lt xs → SortedK lt (insL lt k v xs)
  | [], _ => by simp [insL, SortedK]
  | (a, b) :: xs, h => by
    have h' : SortedK lt ([] ++ (a, b) :: xs) := h
    obtain ⟨_, h2, _, h4⟩ := sorted_mid h'
    unfold SortedK at *
    simp only [insL]
    split
    · rename_i hk
      refine List.pairwise_cons.2 ⟨fun x hx => ?_, h⟩
      rcases List.mem_cons.1 hx with rfl | hx
      · exact hk
      · exact hlo.tr _ _ _ hk (h4 x hx)
    · split
      · rename_i hk2
        refine List.pairwise_cons.2 ⟨fun x hx => ?_, sorted_insL hlo k v xs h2⟩
        rcases mem_insL hlo hx with rfl | hx
        · exact hk2
        · exact h4 x hx
      · rename_i hk hk2
        have : k = a := hlo.tri k a (by simpa using hk) (by simpa using hk2)
        subst this
        exact List.pairwise_cons.2 ⟨h4, h2⟩

theorem getL_right (k : K) : ∀ (A B : List (K × V)), (∀ x, x ∈ A → eq x.1 k = false) → getL eq k (A ++ B) = getL eq k B
  | [], _, _ => rfl
  | (x, y) :: A, B, h => by
    have h1 := h (x, y) (List.mem_cons_self ..)
    simp only [List.cons_append, getL, h1, Bool.false_eq_true, if_false]
    exact getL_right k A B fun z hz => h z (List.mem_cons_of_mem _ hz)

theorem getL_none (k : K) (A : List (K × V)) (h : ∀ x, x ∈ A → eq x.1 k = false) : getL eq k A = none := by
  have := getL_right k A [] h
  simpa [getL] using this

theorem getL_left (k : K) : ∀ (A B : List (K × V)), (∀ x, x ∈ B → eq x.1 k = false) → getL eq k (A ++ B) = getL eq k A
  | [], B, h => getL_none k B h
  | (x, y) :: A, B, h => by
    simp only [List.cons_append, getL]
    rw [getL_left k A B h]

theorem LO.ne (hlo : LO lt eq) {a b : K} (h : lt a b = true) : eq a b = false ∧ eq b a = false := by
  constructor
  · cases hx : eq a b with
    | false => rfl
    | true => rw [(hlo.eq _ _).1 hx, hlo.irr] at h; cases h
  · cases hx : eq b a with
    | false => rfl
    | true => rw [(hlo.eq _ _).1 hx, hlo.irr] at h; cases h

/-- what is found: the node of the key, if it is there -/
def FindOk (eq : K → K → Bool) (k : K) (xs : List (K × V)) : Tr K V → Prop
  | .leaf => getL eq k xs = none
  | .node _ a b _ => a = k ∧ getL eq k xs = some b

theorem FindOk.congr {k : K} {xs ys : List (K × V)} {res : Tr K V} (h : getL eq k xs = getL eq k ys) (x : FindOk eq k ys res) : FindOk eq k xs res := by
  cases res with
  | leaf => exact h.trans x
  | node l a b r => exact ⟨x.1, h.trans x.2⟩

theorem findT_get (hlo : LO lt eq) (k : K) : ∀ t : Tr K V, SortedK lt t.toL → FindOk eq k t.toL (findT lt eq k t)
  | .leaf, _ => rfl
  | .node l a b r, h => by
    obtain ⟨h1, h2, h3, h4⟩ := sorted_mid h
    simp only [findT, Tr.toL]
    by_cases he : eq a k = true
    · rw [if_pos he]
      have := (hlo.eq _ _).1 he
      subst this
      refine ⟨rfl, ?_⟩
      rw [getL_right _ _ _ fun x hx => (hlo.ne (h3 x hx)).1]
      simp [getL, (hlo.eq a a).2 rfl]
    · rw [if_neg he]
      by_cases hk : lt k a = true
      · rw [if_pos hk]
        have ih := findT_get hlo k l h1
        refine ih.congr (getL_left k l.toL ((a, b) :: r.toL) fun x hx => ?_)
        rcases List.mem_cons.1 hx with rfl | hx
        · exact (hlo.ne hk).2
        · exact (hlo.ne (hlo.tr _ _ _ hk (h4 x hx))).2
      · rw [if_neg hk]
        have hk2 : lt a k = true := by
          cases hx : lt a k with
          | true => rfl
          | false => exact absurd ((hlo.eq _ _).2 (hlo.tri _ _ hx (by simpa using hk))) (by simpa using he)
        have ih := findT_get hlo k r h2
        refine ih.congr ((getL_right k l.toL ((a, b) :: r.toL) fun x hx => (hlo.ne (hlo.tr _ _ _ (h3 x hx) hk2)).1).trans ?_)
        simp only [getL]
        rw [if_neg he]
end
end Go.Xe
namespace Go.Xe
open Go
def leaf (T0 : Nat) (i : TI) : Lay := fun T => bif Nat.beq T T0 then some i else none
def node (p : Nat) (l r : Lay) : Lay := fun T => bif Nat.blt T p then l T else r T

def okFlds (L : Lay) : TypeDesc → Bool
  | .struct fs => fs.toList.all fun f => (L f.type).isSome
  | _ => true

structure G (P : Program) (L : Lay) (T : Nat) (i : TI) : Prop where
  und : P.underlying T = some i.desc
  inf : ∃ x, P.info? T = some x ∧ x.zero = some i.zero ∧ x.size = i.size ∧ x.bytes = i.bytes
  zsz : i.zero.cells.size = i.size
  fld : okFlds L i.desc = true

theorem info_at {P : Program} {T : Nat} {x : TypeInfo} (h : P.types[T]? = some x) : P.info? T = some x := by
  have hlt : T < P.types.size := (Array.getElem?_eq_some_iff.1 h).1
  unfold Tables.info?
  simp [hlt]
  exact (Array.getElem?_eq_some_iff.1 h).2

def OkL (P : Program) (L0 L : Lay) : Prop := ∀ T i, L T = some i → G P L0 T i
theorem okLeaf {P : Program} {L0 : Lay} {T0 : Nat} {i : TI} (h : G P L0 T0 i) : OkL P L0 (leaf T0 i) := by
  intro T j hj
  unfold leaf at hj
  cases hb : Nat.beq T T0 with
  | false => rw [hb] at hj; cases hj
  | true =>
    rw [hb] at hj
    cases hj
    rw [Nat.eq_of_beq_eq_true hb]
    exact h
theorem okNode {P : Program} {L0 l r : Lay} {p : Nat} (hl : OkL P L0 l) (hr : OkL P L0 r) : OkL P L0 (node p l r) := by
  intro T j hj
  unfold node at hj
  cases hb : Nat.blt T p with
  | false => rw [hb] at hj; exact hr T j hj
  | true => rw [hb] at hj; exact hl T j hj
theorem layOk_of {P : Program} {L : Lay} (h : OkL P L L) : LayOk L P where
  und T i hT := (h T i hT).und
  inf T i hT := (h T i hT).inf
  zsz T i hT := (h T i hT).zsz
  fld T i fs hT hd f hf := by
    have := (h T i hT).fld
    rw [hd] at this
    simp only [okFlds, List.all_eq_true] at this
    exact Option.isSome_iff_exists.1 (this f hf)
end Go.Xe
