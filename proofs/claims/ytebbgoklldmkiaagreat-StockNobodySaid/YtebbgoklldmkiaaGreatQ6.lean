/- A region whose order is open: one order is walked, every order is meant. -/
import Derived.Test.YtebbgoklldmkiaaGreatQ5
namespace Go.Xe
open Go

inductive Ord
  | fin
  | free (i : Nat) (r : Ord)
  | alt (i : Nat) (r next : Ord)
  | non

def isLoad (o : Oper) : Bool := match o.op with | .load .. => true | _ => false
def isPure (o : Oper) : Bool :=
  match o.op with
  | .move _ | .assign _ | .pick .. | .nilCheck _ | .build .. | .binOp .. | .unOp .. | .convert .. | .makeFunc .. | .slice .. | .fieldAddr .. | .field .. | .indexAddr .. | .index .. | .extract .. => true
  | .call { callee := .builtin .len, .. } => true
  | _ => false
def isFree (o : Oper) : Bool := isLoad o || isPure o

/-- the operations that come ahead of each, as bits -/
def befE (acc : List Nat) : List Edge → Nat → Nat
  | [], m => m
  | e :: l, m => befE acc l (bif Region.binds .any e then m ||| 2 ^ e.on ||| acc.getD e.on 0 else m)
def befs : List Oper → List Nat → List Nat
  | [], acc => acc
  | o :: l, acc => befs l (acc ++ [befE acc o.after.toList 0])

def markL (listed : List Bool) (i : Nat) : List Bool := listed.set i true

def readyL (ops : List Oper) (listed : List Bool) : List Nat :=
  (List.range ops.length).filter fun i => !listed.getD i true && ((ops[i]?).map (·.after.toList.all fun e => !Region.binds .any e || listed.getD e.on false)).getD false

def freeOk (ops : Array Oper) (xs bf : List Nat) (listed : List Bool) (i : Nat) (oi : Oper) : Bool :=
  isFree oi && (List.range ops.size).all fun j => j == i || listed.getD j true || (bf.getD j 0).testBit i || match ops[j]? with
    | some oj => oi.apart ops oj && (!isLoad oi || isFree oj || memN xs j)
    | none => true

def altSet : Ord → List Nat
  | .alt i _ next => i :: altSet next
  | _ => []

def okOrd (ops : Array Oper) (xs bf : List Nat) : Ord → List Bool → Bool
  | .fin, listed => (readyL ops.toList listed).isEmpty
  | .free i r, listed => (readyL ops.toList listed).contains i && (match ops[i]? with | some o => freeOk ops xs bf listed i o | none => false) && okOrd ops xs bf r (markL listed i)
  | .alt i r next, listed => okOrd ops xs bf r (markL listed i) && (match next with | .alt .. => okOrd ops xs bf next listed | _ => true)
  | .non, _ => false

/-- at each choice all that may come up are listed -/
def okAlt (ops : Array Oper) : Ord → List Bool → Bool → Bool
  | .fin, _, _ => true
  | .free i r, listed, _ => okAlt ops r (markL listed i) true
  | .alt i r next, listed, top => (!top || readyL ops.toList listed == i :: altSet next) && okAlt ops r (markL listed i) true && okAlt ops next listed false
  | .non, _, _ => true

def depth : Ord → Nat
  | .fin => 0
  | .free _ r => depth r + 1
  | .alt _ r next => max (depth r + 1) (depth next)
  | .non => 0

def okOp (o : Oper) : Bool := match o.op with | .select .. | .defer _ | .go _ => false | _ => true

def okDraw (ops : Array Oper) (xs : List Nat) (ord : Ord) : Bool :=
  okOrd ops xs (befs ops.toList []) ord (List.replicate ops.size false) && okAlt ops ord (List.replicate ops.size false) true && Nat.ble (depth ord) ops.size && ops.toList.all okOp

/-- an operation that reads at most -/
def opF (L : Lay) (n : Nat) (D : List Nat) (o : Oper) (s : St) (k : St → X) : X :=
  bif okDst n o.dst then
    match cl L (ev s.ρ) o with
    | .pure v => k (s.put o.dst v)
    | .chk p v => .chk p (k (s.put o.dst v))
    | .br t x y => .br t (k (s.put o.dst x)) (k (s.put o.dst y))
    | .load b a i => bif isLoad o then (match D with
      | [] => .load b a i fun v => k (s.put o.dst v)
      | D => .chk (b ∉ D) (.load b a i fun v => k (s.put o.dst v))) else .fail
    | _ => .fail
  else .fail

def gF (L : Lay) (n : Nat) (D : List Nat) (ops : Array Oper) (o : Oper) (s : St) (k : St → X) : X :=
  match o.guard with
  | none => opF L n D o s k
  | some (j, b) => match (ops[j]?).bind (·.dst) with
    | some d => bif Nat.blt d n then (match s.ρ d with
      | .bool t => .br t (bif b then opF L n D o ⟨upd s.ρ d (.bool true), s.ds⟩ k else bif okDst n o.dst then k (St.put ⟨upd s.ρ d (.bool true), s.ds⟩ o.dst undef) else .fail)
          (bif b then (bif okDst n o.dst then k (St.put ⟨upd s.ρ d (.bool false), s.ds⟩ o.dst undef) else .fail) else opF L n D o ⟨upd s.ρ d (.bool false), s.ds⟩ k)
      | .tuple _ => bif okDst n o.dst then k (s.put o.dst undef) else .fail
      | _ => .fail) else .fail
    | none => .fail

def drawX (L : Lay) (n : Nat) (D : List Nat) (ops : Array Oper) (xs : List Nat) : Ord → St → (St → X) → X
  | .fin, s, k => k s
  | .free i r, s, k => match ops[i]? with
    | some o => gF L n D ops o s fun s' => drawX L n D ops xs r s' k
    | none => .fail
  | .alt i r .non, s, k => match ops[i]? with
    | some o => gX L n ops (bif isFree o || memN xs i then some D else none) o s fun s' => drawX L n D ops xs r s' k
    | none => .fail
  | .alt i r next, s, k => .both (match ops[i]? with
    | some o => gX L n ops (bif isFree o || memN xs i then some D else none) o s fun s' => drawX L n D ops xs r s' k
    | none => .fail) (drawX L n D ops xs next s k)
  | .non, _, _ => .fail

/-- the order of the list, the operations that act being come to one at a time -/
def seqO (ops : Array Oper) : List Nat → Ord
  | [] => .fin
  | i :: l => match ops[i]? with
    | some o => bif isFree o then .free i (seqO ops l) else .alt i (seqO ops l) .non
    | none => .non

/-- ranges of numbers, from .. to -/
def rs : List (Nat × Nat) → List Nat
  | [] => []
  | (a, b) :: l => List.range' a (b + 1 - a) ++ rs l

section
variable {P : Program} {D : List Nat} {ops : Array Oper} {xs : List Nat} {ro : Option Nat} {Q : Exit → Act → World → Prop}

/-- every order; an operation that must leave what was there does so -/
def wpAE (P : Program) (D : List Nat) (ro : Option Nat) (ops : Array Oper) (xs : List Nat) (Q : Exit → Act → World → Prop) : Nat → Array Bool → Act → World → Prop
  | 0, listed, a, w => Region.ready .any ops listed = [] ∧ Q .normal a w
  | fuel + 1, listed, a, w =>
    (Region.ready .any ops listed = [] → Q .normal a w) ∧
    ∀ i ∈ Region.ready .any ops listed, wpOpIn (Fe ro) 0 P ops Q i (fun a' w' => ((∃ o, ops[i]? = some o ∧ (isFree o || memN xs i) = true) → Chg D w.heap w'.heap) ∧ wpAE P D ro ops xs Q fuel (listed.setIfInBounds i true) a' w') a w

theorem wpAE_any : ∀ (fuel : Nat) (listed : Array Bool) (a : Act) (w : World), wpAE P D ro ops xs Q fuel listed a w → wpAnyIn (Fe ro) 0 P .any ops Q fuel listed a w
  | 0, _, _, _, h => h
  | _ + 1, _, _, _, h => ⟨h.1, fun i hi => wpOpIn_mono (fun a w x => wpAE_any _ _ a w x.2) (h.2 i hi)⟩

/-- the operation gives v, now and behind whatever leaves what was there -/
def RdY (P : Program) (D : List Nat) (ops : Array Oper) (o : Oper) (v : Value) (a : Act) (w : World) : Prop :=
  (Region.wanted o (yielded ops a.tmps) = true ∧ ∀ w', (isLoad o = true → Chg D w.heap w'.heap) → (execOp a.eval o).run P w' = .ok (.value v) w') ∨
  (Region.wanted o (yielded ops a.tmps) = false ∧ v = undef)

theorem okOp_spec {o : Oper} (h : okOp o = true) : (∀ cs b, o.op ≠ .select cs b) ∧ (∀ k, o.op ≠ .defer k) := by
  refine ⟨fun cs b hx => ?_, fun k hx => ?_⟩ <;> (unfold okOp at h; rw [hx] at h; cases h)

theorem RdY.same {o : Oper} {v : Value} {a a' : Act} {w w' : World} (h : RdY P D ops o v a w) (he : execOp a'.eval o = execOp a.eval o)
    (hw : Region.wanted o (yielded ops a'.tmps) = Region.wanted o (yielded ops a.tmps)) (hc : isLoad o = true → Chg D w.heap w'.heap) : RdY P D ops o v a' w' := by
  unfold RdY at *
  rw [he, hw]
  exact h.imp (fun ⟨h1, h2⟩ => ⟨h1, fun w2 hl => h2 w2 fun hx => (hc hx).trans (hl hx)⟩) id

theorem RdY.op {i : Nat} {o : Oper} {v : Value} {a : Act} {w : World} (hi : ops[i]? = some o) (hok : okOp o = true) (hy : RdY P D ops o v a w) {K : Act → World → Prop} (h : K (a.put o.dst v) w) :
    wpOpIn (Fe ro) 0 P ops Q i K a w := by
  unfold wpOpIn
  simp only [hi]
  rcases hy with ⟨hw, hv⟩ | ⟨hw, rfl⟩
  · rw [hw, if_pos rfl]
    refine ⟨fun _ _ => trivial, ?_⟩
    rw [semAt_eq o a.eval (okOp_spec hok).2, hv w (fun _ => Chg.refl _ _)]
    exact h
  · rw [hw, if_neg (by simp)]
    exact ⟨fun _ _ => trivial, h⟩

theorem put_op {j : Nat} {oi oj : Oper} {v : Value} (hj : ops[j]? = some oj) (hap : oi.apart ops oj = true) (hsi : okOp oi = true) (hsj : okOp oj = true)
    (hQ : ∀ c a w, ¬ Q (.panic c) a w) {K : Act → World → Prop} {a : Act} {w : World} (h : wpOpIn (Fe ro) 0 P ops Q j K (a.put oi.dst v) w) :
    wpOpIn (Fe ro) 0 P ops Q j (fun a' w' => (execOp a'.eval oi = execOp a.eval oi ∧ Region.wanted oi (yielded ops a'.tmps) = Region.wanted oi (yielded ops a.tmps)) ∧ K (a'.put oi.dst v) w') a w := by
  obtain ⟨h1, h2, h3⟩ := Oper.apart_spec hap
  have keep : ∀ (a : Act) (u : Value), execOp (a.put oj.dst u).eval oi = execOp a.eval oi ∧ Region.wanted oi (yielded ops (a.put oj.dst u).tmps) = Region.wanted oi (yielded ops a.tmps) := fun a u =>
    ⟨execOp_put oi (okOp_spec hsi).1 a oj.dst u h3, wanted_put oi a oj.dst u h3⟩
  unfold wpOpIn at *
  simp only [hj] at *
  rw [wanted_put oj a oi.dst v h1] at h
  split
  · rename_i hw
    simp only [hw, if_true] at h
    refine ⟨fun _ _ => trivial, ?_⟩
    have h := h.2
    rw [semAt_eq oj _ (okOp_spec hsj).2, execOp_put oj (okOp_spec hsj).1 a oi.dst v h1] at h
    rw [semAt_eq oj _ (okOp_spec hsj).2]
    generalize (execOp a.eval oj).run P w = r at *
    cases r with
    | ok x w' =>
      cases x <;> simp only [Oper.uponIn] at h ⊢
      case value u => exact ⟨keep a u, by rw [← Act.put_comm a v u h2]; exact h⟩
      case skip => exact ⟨keep a _, by rw [← Act.put_comm a v undef h2]; exact h⟩
      case defer d =>
        refine ⟨keep { a with defers := d :: a.defers } _, ?_⟩
        rw [← Act.put_comm _ v undef h2, ← Act.put_defers]
        exact h
      case enter f args =>
        refine ⟨h.1, CallsIn.mono h.2 fun e w'' he => ?_⟩
        cases e with
        | returned u => exact ⟨keep a u, by rw [← Act.put_comm a v u h2]; exact he⟩
        | panicked c => exact absurd he (hQ _ _ _)
        | outgrown => exact he
      case row row args => exact ⟨h.1, RowsIn.mono h.2 fun u w'' he => ⟨keep a u, by rw [← Act.put_comm a v u h2]; exact he⟩⟩
      case round l f tmps assign body =>
        refine ⟨h.1, RoundIn.mono h.2 fun e w'' he => ?_⟩
        cases e with
        | returned u => exact ⟨keep a u, by rw [← Act.put_comm a v u h2]; exact he⟩
        | panicked c => exact absurd he (hQ _ _ _)
        | outgrown => exact he
    | halt x w' =>
      cases x <;> simp only [Oper.uponIn] at h ⊢
      case panic u => exact absurd h (hQ _ _ _)
  · rename_i hw
    simp only [hw] at h
    exact ⟨fun _ _ => trivial, keep a _, by rw [← Act.put_comm a v undef h2]; exact h.2⟩

/-- i comes ahead of j, by some chain -/
inductive Pre (ops : Array Oper) : Nat → Nat → Prop
  | one {i j : Nat} {o : Oper} {e : Edge} (h : ops[j]? = some o) (he : e ∈ o.after) (hb : Region.binds .any e = true) (hi : e.on = i) : Pre ops j i
  | step {i j : Nat} {o : Oper} {e : Edge} (h : ops[j]? = some o) (he : e ∈ o.after) (hb : Region.binds .any e = true) (hi : Pre ops e.on i) : Pre ops j i

/-- what is listed has all that comes ahead of it listed -/
def Clo (ops : Array Oper) (listed : Array Bool) : Prop :=
  ∀ j o, listed.getD j false = true → ops[j]? = some o → ∀ e ∈ o.after, Region.binds .any e = true → listed.getD e.on false = true

theorem Clo.pre {listed : Array Bool} (h : Clo ops listed) {j i : Nat} (hp : Pre ops j i) (hj : ∀ o, ops[j]? = some o → ∀ e ∈ o.after, Region.binds .any e = true → listed.getD e.on false = true) : listed.getD i false = true := by
  induction hp with
  | one h1 he hb hi => rw [← hi]; exact hj _ h1 _ he hb
  | step h1 he hb _ ih => exact ih fun o ho e' he' hb' => h _ o (hj _ h1 _ he hb) ho e' he' hb'

theorem Clo.mark {listed : Array Bool} (h : Clo ops listed) {j : Nat} (hj : ∀ o, ops[j]? = some o → ∀ e ∈ o.after, Region.binds .any e = true → listed.getD e.on false = true) : Clo ops (listed.setIfInBounds j true) := by
  intro i o hi ho e he hb
  by_cases hij : j = i
  · subst hij; exact getD_set_true (hj o ho e he hb)
  · rw [getD_set_ne false hij] at hi; exact getD_set_true (h i o hi ho e he hb)

/-- an operation that only reads may be taken first -/
theorem take {i : Nat} {oi : Oper} {v : Value} (hi : ops[i]? = some oi) (hok : ∀ (j : Nat) (o : Oper), ops[j]? = some o → okOp o = true) (hQ : ∀ c a w, ¬ Q (.panic c) a w) :
    ∀ (fuel : Nat) (listed : Array Bool) (a : Act) (w : World),
      (∀ j oj, ops[j]? = some oj → j ≠ i → listed.getD j true = false → Pre ops j i ∨ (oi.apart ops oj = true ∧ (isLoad oi = true → (isFree oj || memN xs j) = true))) → Clo ops listed →
      i ∈ Region.ready .any ops listed → RdY P D ops oi v a w →
      wpAE P D ro ops xs Q fuel (listed.setIfInBounds i true) (a.put oi.dst v) w → wpAE P D ro ops xs Q (fuel + 1) listed a w := by
  intro fuel
  induction fuel with
  | zero =>
    intro listed a w _ _ hr hy H
    refine ⟨fun h => (by rw [h] at hr; cases hr), fun j hj => ?_⟩
    by_cases hji : j = i
    · subst hji; exact hy.op hi (hok _ _ hi) ⟨fun _ => Chg.refl _ _, H⟩
    · have := ready_mono hj hji
      rw [H.1] at this
      cases this
  | succ fuel ih =>
    intro listed a w hfree hclo hr hy H
    refine ⟨fun h => (by rw [h] at hr; cases hr), fun j hj => ?_⟩
    by_cases hji : j = i
    · subst hji; exact hy.op hi (hok _ _ hi) ⟨fun _ => Chg.refl _ _, H⟩
    · have h1 := H.2 j (ready_mono hj hji)
      obtain ⟨hjun, oj, hoj, hall⟩ := mem_ready.1 hj
      have hun : listed.getD i false = false := by
        have h0 := (mem_ready.1 hr).1
        rcases Nat.lt_or_ge i listed.size with h' | h'
        · simp [h'] at h0 ⊢; exact h0
        · simp [Array.getElem?_eq_none h']
      have hj2 : ∀ o, ops[j]? = some o → ∀ e ∈ o.after, Region.binds .any e = true → listed.getD e.on false = true := fun o ho e he hb => by
        rw [hoj] at ho; cases ho; exact hall e he hb
      have hnot : ¬ Pre ops j i := fun hp => by rw [hclo.pre hp hj2] at hun; cases hun
      obtain ⟨hap, hext⟩ := (hfree j oj hoj hji hjun).resolve_left hnot
      have h2 := put_op hoj hap (hok _ _ hi) (hok _ _ hoj) hQ h1
      have hfree' : ∀ k ok, ops[k]? = some ok → k ≠ i → (listed.setIfInBounds j true).getD k true = false →
          Pre ops k i ∨ (oi.apart ops ok = true ∧ (isLoad oi = true → (isFree ok || memN xs k) = true)) := fun k ok hk hki hun => by
        refine hfree k ok hk hki ?_
        by_cases hjk : j = k
        · subst hjk; exact hjun
        · rw [getD_set_ne true hjk] at hun; exact hun
      refine wpOpIn_mono (fun a' w' h3 => ⟨fun hx => h3.2.1 hx, ih (listed.setIfInBounds j true) a' w' hfree' (hclo.mark hj2) (ready_mono hr (Ne.symm hji)) (hy.same h3.1.1 h3.1.2 fun hl => h3.2.1 ⟨oj, hoj, hext hl⟩) ?_⟩) h2
      rw [Array.setIfInBounds_comm _ _ hji]
      exact h3.2.2

theorem befE_spec {acc : List Nat} {j : Nat} {o : Oper} (hj : ops[j]? = some o) (hacc : ∀ k i, (acc.getD k 0).testBit i = true → Pre ops k i) : ∀ (l : List Edge) (m : Nat), (∀ e, e ∈ l → e ∈ o.after) → (∀ i, m.testBit i = true → Pre ops j i) →
    ∀ i, (befE acc l m).testBit i = true → Pre ops j i
  | [], _, _, hm, i, h => hm i h
  | e :: l, m, hl, hm, i, h => by
    refine befE_spec hj hacc l _ (fun e' he' => hl e' (List.mem_cons_of_mem _ he')) ?_ i h
    intro i h
    cases hb : Region.binds .any e with
    | false => rw [hb] at h; exact hm i h
    | true =>
      rw [hb, cond_true, Nat.testBit_or, Nat.testBit_or] at h
      simp only [Bool.or_eq_true] at h
      rcases h with (h | h) | h
      · exact hm i h
      · rw [Nat.testBit_two_pow] at h
        exact .one hj (hl e (List.mem_cons_self ..)) hb (by simpa using h)
      · exact .step hj (hl e (List.mem_cons_self ..)) hb (hacc _ _ h)

theorem befs_spec : ∀ (l : List Oper) (acc : List Nat), (∀ k o, l[k]? = some o → ops[acc.length + k]? = some o) → (∀ k i, (acc.getD k 0).testBit i = true → Pre ops k i) →
    ∀ k i, ((befs l acc).getD k 0).testBit i = true → Pre ops k i
  | [], _, _, hacc => hacc
  | o :: l, acc, hl, hacc => by
    refine befs_spec l _ (fun k o' hk => ?_) ?_
    · have := hl (k + 1) o' (by simpa using hk)
      simpa [Nat.add_assoc, Nat.add_comm 1 k] using this
    · intro k i h
      by_cases hk : k < acc.length
      · simp only [List.getD_eq_getElem?_getD, List.getElem?_append_left hk] at h
        exact hacc k i (by simpa [List.getD_eq_getElem?_getD] using h)
      · by_cases hk2 : k = acc.length
        · subst hk2
          simp only [List.getD_eq_getElem?_getD, List.getElem?_append_right (Nat.le_refl _), Nat.sub_self, List.getElem?_cons_zero, Option.getD_some] at h
          exact befE_spec (hl 0 o rfl) hacc _ 0 (fun e he => by simpa using he) (fun i hi => by simp at hi) i h
        · rw [List.getD_eq_getElem?_getD, List.getElem?_eq_none (by simp; omega)] at h
          simp at h

theorem run_pure_free {L : Lay} {n : Nat} {c : World} {QX : Exit → St → Hp → Prop} (hL : LayOk L P) {o : Oper} {s : St} {k : St → X} {h : Hp} (hw : (opF L n D o s k).wp c P ro n h QX) {a : Act} {w : World} (ha : Rel n a s) (hh : w.heap = h) :
    ∃ v, (∀ w', (isLoad o = true → Chg D w.heap w'.heap) → (execOp a.eval o).run P w' = .ok (.value v) w') ∧ Rel n (a.put o.dst v) (s.put o.dst v) ∧ (k (s.put o.dst v)).wp c P ro n h QX := by
  subst hh
  unfold opF at hw
  cases hd : okDst n o.dst with
  | false => rw [hd] at hw; exact hw.elim
  | true =>
    rw [hd, cond_true] at hw
    have hs := cl_says (P := P) hL (ev s.ρ) o
    have hput := fun v => ha.put o.dst hd v
    rw [← eval_eq ha] at hw hs
    cases hcl : cl L a.eval o with
    | pure v => rw [hcl] at hw hs; exact ⟨v, fun w' _ => hs w', hput v, hw⟩
    | chk p v => rw [hcl] at hw hs; exact ⟨v, fun w' _ => hs hw.1 w', hput v, hw.2⟩
    | br t x y =>
      rw [hcl] at hw hs
      cases t with
      | true => exact ⟨x, fun w' _ => hs w', hput x, hw.1 rfl⟩
      | false => exact ⟨y, fun w' _ => hs w', hput y, hw.2 rfl⟩
    | load b oo i =>
      rw [hcl] at hw hs
      cases hl : isLoad o with
      | false => rw [hl] at hw; exact hw.elim
      | true =>
        rw [hl] at hw
        have hx : ∃ v, Ld w.heap b oo i v ∧ b ∉ D ∧ (k (s.put o.dst v)).wp c P ro n w.heap QX := by
          cases D with
          | nil => obtain ⟨v, hv, hw⟩ := hw; exact ⟨v, hv, by simp, hw⟩
          | cons d D => obtain ⟨hd, v, hv, hw⟩ := hw; exact ⟨v, hv, hd, hw⟩
        obtain ⟨v, hv, hd, hw⟩ := hx
        exact ⟨v, fun w' hx => hs w' v (Ld.chg (hx rfl) hv hd), hput v, hw⟩
    | _ => rw [hcl] at hw; exact hw.elim

theorem free_y {L : Lay} {n : Nat} {c : World} {QX : Exit → St → Hp → Prop} (hL : LayOk L P) {o : Oper} {s : St} {k : St → X} {h : Hp} (hw : (gF L n D ops o s k).wp c P ro n h QX) {a : Act} {w : World} (ha : Rel n a s) (hh : w.heap = h) :
    ∃ v s', RdY P D ops o v a w ∧ Rel n (a.put o.dst v) s' ∧ (k s').wp c P ro n h QX := by
  unfold gF at hw
  cases hg : o.guard with
  | none =>
    rw [hg] at hw
    obtain ⟨v, h1, h2, h3⟩ := run_pure_free hL hw ha hh
    exact ⟨v, _, .inl ⟨by simp [Region.wanted, hg], h1⟩, h2, h3⟩
  | some jb =>
    obtain ⟨j, b⟩ := jb
    rw [hg] at hw
    simp only at hw
    cases hd : (ops[j]?).bind (·.dst) with
    | none => rw [hd] at hw; exact hw.elim
    | some d =>
      rw [hd] at hw
      simp only at hw
      cases hn : Nat.blt d n with
      | false => rw [hn] at hw; exact hw.elim
      | true =>
        rw [hn, cond_true] at hw
        have hdn : d < n := by simpa [Nat.blt_eq] using hn
        have hcell : a.tmps[d]? = some (s.ρ d) := by
          have h1 := ha.2.2 d
          have h2 : d < a.tmps.size := by rw [ha.1]; exact hdn
          simp only [Array.getD_eq_getD_getElem?, Array.getElem?_eq_getElem h2, Option.getD_some] at h1
          rw [Array.getElem?_eq_getElem h2, h1]
        have hy : yielded ops a.tmps j = (match s.ρ d with | .bool b => some b | _ => none) := by
          unfold yielded
          rw [hd]
          simp only [Option.bind_some, hcell]
          split <;> rename_i hx <;> simp only [Option.some.injEq] at hx <;> first | (rw [hx]) | (split <;> simp_all)
        cases hv : s.ρ d with
        | bool t =>
          rw [hv] at hw hy
          simp only at hw hy
          have ha1 : Rel n a ⟨upd s.ρ d (.bool t), s.ds⟩ := by rw [upd_same hv]; exact ha
          have skip : ∀ b', okDst n o.dst = true → ((k (St.put ⟨upd s.ρ d (.bool t), s.ds⟩ o.dst undef)).wp c P ro n h QX) → b' ≠ t → b = b' →
              ∃ v s', RdY P D ops o v a w ∧ Rel n (a.put o.dst v) s' ∧ (k s').wp c P ro n h QX := by
            intro b' hok hk hne hb
            refine ⟨undef, _, .inr ⟨?_, rfl⟩, ha1.put _ hok _, hk⟩
            simp only [Region.wanted, hg, hy, hb]
            cases b' <;> cases t <;> simp_all
          have doit : b = t → ((opF L n D o ⟨upd s.ρ d (.bool t), s.ds⟩ k).wp c P ro n h QX) → ∃ v s', RdY P D ops o v a w ∧ Rel n (a.put o.dst v) s' ∧ (k s').wp c P ro n h QX := by
            intro hb hk
            obtain ⟨v, h1, h2, h3⟩ := run_pure_free hL hk ha1 hh
            refine ⟨v, _, .inl ⟨?_, h1⟩, h2, h3⟩
            simp only [Region.wanted, hg, hy, hb]
            cases t <;> rfl
          cases t with
          | true =>
            have hw := hw.1 rfl
            cases b with
            | true => exact doit rfl hw
            | false =>
              simp only [cond_false] at hw
              cases hok : okDst n o.dst with
              | false => rw [hok] at hw; exact hw.elim
              | true => rw [hok] at hw; exact skip false hok hw (by simp) rfl
          | false =>
            have hw := hw.2 rfl
            cases b with
            | false => exact doit rfl hw
            | true =>
              simp only [cond_true] at hw
              cases hok : okDst n o.dst with
              | false => rw [hok] at hw; exact hw.elim
              | true => rw [hok] at hw; exact skip true hok hw (by simp) rfl
        | tuple vs =>
          rw [hv] at hw hy
          simp only at hw hy
          cases hok : okDst n o.dst with
          | false => rw [hok] at hw; exact hw.elim
          | true =>
            rw [hok] at hw
            refine ⟨undef, _, .inr ⟨?_, rfl⟩, ha.put _ hok _, hw⟩
            simp only [Region.wanted, hg, hy]
            cases b <;> rfl
        | _ => rw [hv] at hw; exact hw.elim

theorem readyL_eq (listed : Array Bool) : readyL ops.toList listed.toList = Region.ready .any ops listed := by
  unfold readyL Region.ready
  simp only [Array.length_toList]
  congr 1
  funext i
  simp [Array.getD_eq_getD_getElem?, List.getD_eq_getElem?_getD, ← Array.all_toList]

theorem freeOk_spec {listed : Array Bool} {i : Nat} {oi : Oper} (h : freeOk ops xs (befs ops.toList []) listed.toList i oi = true) :
    ∀ j oj, ops[j]? = some oj → j ≠ i → listed.getD j true = false → Pre ops j i ∨ (oi.apart ops oj = true ∧ (isLoad oi = true → (isFree oj || memN xs j) = true)) := by
  intro j oj hj hne hun
  unfold freeOk at h
  simp only [Bool.and_eq_true, List.all_eq_true, List.mem_range] at h
  have h1 := h.2 j (Array.getElem?_eq_some_iff.1 hj).1
  simp only [hj, Bool.or_eq_true, beq_iff_eq] at h1
  rcases h1 with ((h1 | h1) | h1) | h1
  · exact absurd h1 hne
  · simp only [Array.getD_eq_getD_getElem?, List.getD_eq_getElem?_getD, Array.getElem?_toList] at h1 hun
    rw [hun] at h1; cases h1
  · exact .inl (befs_spec ops.toList [] (fun k o hk => by simpa using hk) (fun k i hx => by simp at hx) j i h1)
  · simp only [Bool.and_eq_true, Bool.or_eq_true, Bool.not_eq_true'] at h1
    refine .inr ⟨h1.1, fun hl => ?_⟩
    rcases h1.2 with (h2 | h2) | h2
    · rw [h2] at hl; cases hl
    · simp [h2]
    · simp [h2]

theorem markL_eq (listed : Array Bool) (i : Nat) : markL listed.toList i = (listed.setIfInBounds i true).toList := by simp [markL]

theorem draw_walk {L : Lay} {n : Nat} {c : World} {QX : Exit → St → Hp → Prop} (hL : LayOk L P) (hok : ∀ (j : Nat) (o : Oper), ops[j]? = some o → okOp o = true) (hQ : ∀ c a w, ¬ Q (.panic c) a w) (k : St → X)
    (hfin : ∀ s a w, Rel n a s → Ctx c w → (k s).wp c P ro n w.heap QX → Q .normal a w) :
    ∀ (ord : Ord) (fuel : Nat) (listed : Array Bool) (s : St) (a : Act) (w : World), depth ord ≤ fuel → okOrd ops xs (befs ops.toList []) ord listed.toList = true → okAlt ops ord listed.toList true = true → Clo ops listed →
      (drawX L n D ops xs ord s k).wp c P ro n w.heap QX → Rel n a s → Ctx c w → wpAE P D ro ops xs Q fuel listed a w
  | .fin, fuel, listed, s, a, w, _, h1, _, _, hw, ha, hc => by
    have hr : Region.ready .any ops listed = [] := by
      rw [← readyL_eq]
      simpa [okOrd] using h1
    have hq := hfin s a w ha hc hw
    cases fuel with
    | zero => exact ⟨hr, hq⟩
    | succ f => exact ⟨fun _ => hq, by rw [hr]; simp⟩
  | .free i r, fuel, listed, s, a, w, hd, h1, h2, hclo, hw, ha, hc => by
    obtain ⟨f, rfl⟩ : ∃ f, fuel = f + 1 := ⟨fuel - 1, by simp only [depth] at hd; omega⟩
    simp only [okOrd, Bool.and_eq_true] at h1
    simp only [drawX] at hw
    cases hi : ops[i]? with
    | none => rw [hi] at hw; exact hw.elim
    | some o =>
      rw [hi] at hw h1
      obtain ⟨v, s', hy, hr, hk⟩ := free_y hL (k := fun s' => drawX L n D ops xs r s' k) hw ha rfl
      have hrd : i ∈ Region.ready .any ops listed := by rw [← readyL_eq]; simpa using h1.1.1
      have hj2 : ∀ o, ops[i]? = some o → ∀ e ∈ o.after, Region.binds .any e = true → listed.getD e.on false = true := fun o ho e he hb => by
        obtain ⟨_, o', ho', hall⟩ := mem_ready.1 hrd
        rw [ho'] at ho; cases ho; exact hall e he hb
      refine take hi hok hQ f listed a w (freeOk_spec h1.1.2) hclo hrd hy ?_
      refine draw_walk hL hok hQ k hfin r f _ s' _ w (by simp only [depth] at hd; omega) (by rw [← markL_eq]; exact h1.2) (by rw [← markL_eq]; exact h2) (hclo.mark hj2) hk hr hc
  | .alt i r next, fuel, listed, s, a, w, hd, h1, h2, hclo, hw, ha, hc => by
    obtain ⟨f, rfl⟩ : ∃ f, fuel = f + 1 := ⟨fuel - 1, by simp only [depth] at hd; omega⟩
    have hset : Region.ready .any ops listed = i :: altSet next := by
      rw [← readyL_eq]
      simp only [okAlt, Bool.and_eq_true, Bool.not_true, Bool.false_or, beq_iff_eq] at h2
      exact h2.1.1
    have one : ∀ (i : Nat) (r : Ord), i ∈ Region.ready .any ops listed → depth r + 1 ≤ f + 1 → okOrd ops xs (befs ops.toList []) r (markL listed.toList i) = true → okAlt ops r (markL listed.toList i) true = true →
        ((match ops[i]? with | some o => gX L n ops (bif isFree o || memN xs i then some D else none) o s fun s' => drawX L n D ops xs r s' k | none => .fail) : X).wp c P ro n w.heap QX →
        wpOpIn (Fe ro) 0 P ops Q i (fun a' w' => ((∃ o, ops[i]? = some o ∧ (isFree o || memN xs i) = true) → Chg D w.heap w'.heap) ∧ wpAE P D ro ops xs Q f (listed.setIfInBounds i true) a' w') a w := by
      intro i r hrd hd h1 h2 hw
      have hj2 : ∀ o, ops[i]? = some o → ∀ e ∈ o.after, Region.binds .any e = true → listed.getD e.on false = true := fun o ho e he hb => by
        obtain ⟨_, o', ho', hall⟩ := mem_ready.1 hrd
        rw [ho'] at ho; cases ho; exact hall e he hb
      unfold wpOpIn
      cases hi : ops[i]? with
      | none => rw [hi] at hw; exact hw.elim
      | some o =>
        rw [hi] at hw
        refine g_sound hL (k := fun s' => drawX L n D ops xs r s' k) hw ha rfl hc _ Q fun a' w' s' hr hc' hchg hk => ?_
        refine ⟨fun ⟨o', ho, hx⟩ => (by cases ho; rw [hx] at hchg; exact hchg), ?_⟩
        exact draw_walk hL hok hQ k hfin r f _ s' a' w' (by omega) (by rw [← markL_eq]; exact h1) (by rw [← markL_eq]; exact h2) (hclo.mark hj2) hk hr hc'
    refine ⟨fun hx => absurd (hset.symm.trans hx) (by simp), fun j hj => ?_⟩
    have hjr := hj
    rw [hset] at hj
    simp only [okOrd, Bool.and_eq_true] at h1
    simp only [okAlt, Bool.and_eq_true] at h2
    simp only [depth] at hd
    have hX : (((match ops[i]? with | some o => gX L n ops (bif isFree o || memN xs i then some D else none) o s fun s' => drawX L n D ops xs r s' k | none => .fail) : X).wp c P ro n w.heap QX) ∧
        ((∃ i' r' n', next = .alt i' r' n') → (drawX L n D ops xs next s k).wp c P ro n w.heap QX) := by
      cases next with
      | non => exact ⟨hw, fun ⟨_, _, _, h⟩ => by cases h⟩
      | fin => exact ⟨hw.1, fun ⟨_, _, _, h⟩ => by cases h⟩
      | free _ _ => exact ⟨hw.1, fun ⟨_, _, _, h⟩ => by cases h⟩
      | alt _ _ _ => exact ⟨hw.1, fun _ => hw.2⟩
    rcases List.mem_cons.1 hj with rfl | hj
    · exact one j r hjr (by omega) h1.1 h2.1.2 hX.1
    · -- one of the others
      have rest : ∀ (m : Ord), depth m ≤ f + 1 → okAlt ops m listed.toList false = true → ((∃ i' r' n', m = .alt i' r' n') → okOrd ops xs (befs ops.toList []) m listed.toList = true) →
          ((∃ i' r' n', m = .alt i' r' n') → (drawX L n D ops xs m s k).wp c P ro n w.heap QX) → j ∈ altSet m →
          wpOpIn (Fe ro) 0 P ops Q j (fun a' w' => ((∃ o, ops[j]? = some o ∧ (isFree o || memN xs j) = true) → Chg D w.heap w'.heap) ∧ wpAE P D ro ops xs Q f (listed.setIfInBounds j true) a' w') a w := by
        intro m
        induction m with
        | fin => intro _ _ _ _ hj; cases hj
        | free _ _ _ => intro _ _ _ _ hj; cases hj
        | non => intro _ _ _ _ hj; cases hj
        | alt i' r' n' _ ih =>
          intro hd h2 h1 hw hj
          have h1 := h1 ⟨_, _, _, rfl⟩
          have hw := hw ⟨_, _, _, rfl⟩
          simp only [okOrd, Bool.and_eq_true] at h1
          simp only [okAlt, Bool.and_eq_true] at h2
          simp only [depth] at hd
          have hX : (((match ops[i']? with | some o => gX L n ops (bif isFree o || memN xs i' then some D else none) o s fun s' => drawX L n D ops xs r' s' k | none => .fail) : X).wp c P ro n w.heap QX) ∧
              ((∃ i2 r2 n2, n' = .alt i2 r2 n2) → (drawX L n D ops xs n' s k).wp c P ro n w.heap QX) := by
            cases n' with
            | non => exact ⟨hw, fun ⟨_, _, _, h⟩ => by cases h⟩
            | fin => exact ⟨hw.1, fun ⟨_, _, _, h⟩ => by cases h⟩
            | free _ _ => exact ⟨hw.1, fun ⟨_, _, _, h⟩ => by cases h⟩
            | alt _ _ _ => exact ⟨hw.1, fun _ => hw.2⟩
          rcases List.mem_cons.1 hj with rfl | hj
          · exact one j r' hjr (by omega) h1.1 h2.1.2 hX.1
          · exact ih (by omega) h2.2 (fun ⟨_, _, _, he⟩ => by rw [he] at h1 ⊢; exact h1.2) hX.2 hj
      refine rest next (by omega) h2.2 (fun ⟨_, _, _, he⟩ => by rw [he] at h1 ⊢; exact h1.2) hX.2 hj

theorem opsMod_mem : ∀ (l : List Oper) (o : Oper) (t : Nat), o ∈ l → o.dst = some t → opsMod l t = true
  | [], _, _, h, _ => by cases h
  | x :: l, o, t, h, hd => by
    simp only [opsMod, Bool.or_eq_true]
    rcases List.mem_cons.1 h with rfl | h
    · left; rw [hd]; exact Nat.beq_refl t
    · right; exact opsMod_mem l o t h hd

section mono
variable {L : Lay} {n : Nat} {c : World} {M : Nat → Bool} {QX QX' : Exit → St → Hp → Prop}

theorem opF_mono {o : Oper} {s : St} {k k' : St → X} {h : Hp} (hM : ∀ t, o.dst = some t → M t = true)
    (hk : ∀ s' h', Agr M s s' → s'.ds = s.ds → (k s').wp c P ro n h' QX → (k' s').wp c P ro n h' QX') (hw : (opF L n D o s k).wp c P ro n h QX) : (opF L n D o s k').wp c P ro n h QX' := by
  unfold opF at hw ⊢
  cases hd : okDst n o.dst with
  | false => rw [hd] at hw; exact hw.elim
  | true =>
    rw [hd, cond_true] at hw
    rw [cond_true]
    have hp := fun v => Agr.put (M := M) s o.dst v hM
    have hds := fun v => Fr.ds_put s o.dst v
    cases hcl : cl L (ev s.ρ) o with
    | pure v => rw [hcl] at hw; exact hk _ _ (hp _) (hds _) hw
    | chk p v => rw [hcl] at hw; exact ⟨hw.1, hk _ _ (hp _) (hds _) hw.2⟩
    | br t x y => rw [hcl] at hw; exact ⟨fun ht => hk _ _ (hp _) (hds _) (hw.1 ht), fun ht => hk _ _ (hp _) (hds _) (hw.2 ht)⟩
    | load b oo i =>
      rw [hcl] at hw
      cases hl : isLoad o with
      | false => rw [hl] at hw; exact hw.elim
      | true =>
        rw [hl] at hw
        cases D with
        | nil => obtain ⟨v, h1, h2⟩ := hw; exact ⟨v, h1, hk _ _ (hp _) (hds _) h2⟩
        | cons d D => obtain ⟨h0, v, h1, h2⟩ := hw; exact ⟨h0, v, h1, hk _ _ (hp _) (hds _) h2⟩
    | _ => rw [hcl] at hw; exact hw.elim

theorem gF_mono {o : Oper} {s : St} {k k' : St → X} {h : Hp} (hM : ∀ t, o.dst = some t → M t = true)
    (hk : ∀ s' h', Agr M s s' → s'.ds = s.ds → (k s').wp c P ro n h' QX → (k' s').wp c P ro n h' QX') (hw : (gF L n D ops o s k).wp c P ro n h QX) : (gF L n D ops o s k').wp c P ro n h QX' := by
  unfold gF at hw ⊢
  cases hg : o.guard with
  | none => rw [hg] at hw; exact opF_mono hM hk hw
  | some jb =>
    obtain ⟨j, b⟩ := jb
    rw [hg] at hw
    simp only at hw ⊢
    cases hd : (ops[j]?).bind (·.dst) with
    | none => rw [hd] at hw; exact hw.elim
    | some d =>
      rw [hd] at hw
      simp only at hw ⊢
      cases hn : Nat.blt d n with
      | false => rw [hn] at hw; exact hw.elim
      | true =>
        rw [hn, cond_true] at hw
        rw [cond_true]
        cases hv : s.ρ d with
        | bool t =>
          rw [hv] at hw
          simp only at hw ⊢
          have h1 : ∀ t' : Bool, t = t' → Agr M s ⟨upd s.ρ d (.bool t'), s.ds⟩ := fun t' ht => by rw [upd_same (by rw [hv, ht])]; exact Agr.refl _ _
          have hskip : ∀ t' : Bool, t = t' → (bif okDst n o.dst then k (St.put ⟨upd s.ρ d (.bool t'), s.ds⟩ o.dst undef) else .fail).wp c P ro n h QX →
              (bif okDst n o.dst then k' (St.put ⟨upd s.ρ d (.bool t'), s.ds⟩ o.dst undef) else .fail).wp c P ro n h QX' := fun t' ht hx => by
            cases hok : okDst n o.dst with
            | false => rw [hok] at hx; exact hx.elim
            | true => rw [hok] at hx; exact hk _ _ ((h1 t' ht).trans (Agr.put _ _ _ hM)) (Fr.ds_put _ _ _) hx
          have hdo : ∀ t' : Bool, t = t' → (opF L n D o ⟨upd s.ρ d (.bool t'), s.ds⟩ k).wp c P ro n h QX → (opF L n D o ⟨upd s.ρ d (.bool t'), s.ds⟩ k').wp c P ro n h QX' := fun t' ht hx =>
            opF_mono hM (fun s' h' ha hds hx => hk s' h' ((h1 t' ht).trans ha) hds hx) hx
          refine ⟨fun ht => ?_, fun ht => ?_⟩
          · have hx := hw.1 ht
            cases b with
            | true => exact hdo _ ht hx
            | false => exact hskip _ ht hx
          · have hx := hw.2 ht
            cases b with
            | true => exact hskip _ ht hx
            | false => exact hdo _ ht hx
        | tuple vs =>
          rw [hv] at hw
          simp only at hw ⊢
          cases hok : okDst n o.dst with
          | false => rw [hok] at hw; exact hw.elim
          | true => rw [hok] at hw; exact hk _ _ (Agr.put _ _ _ hM) (Fr.ds_put _ _ _) hw
        | _ => rw [hv] at hw; exact hw.elim

theorem drawX_mono {k k' : St → X} (hM : ∀ (i : Nat) (o : Oper), ops[i]? = some o → ∀ t, o.dst = some t → M t = true) : ∀ (ord : Ord) (s : St) (h : Hp),
    (∀ s' h', Agr M s s' → s'.ds = s.ds → (k s').wp c P ro n h' QX → (k' s').wp c P ro n h' QX') → (drawX L n D ops xs ord s k).wp c P ro n h QX → (drawX L n D ops xs ord s k').wp c P ro n h QX'
  | .fin, s, h, hk, hw => hk s h (Agr.refl _ _) rfl hw
  | .free i r, s, h, hk, hw => by
    simp only [drawX] at hw ⊢
    cases hi : ops[i]? with
    | none => rw [hi] at hw; exact hw.elim
    | some o =>
      rw [hi] at hw
      exact gF_mono (hM i o hi) (fun s' h' ha hds hx => drawX_mono hM r s' h' (fun s2 h2 ha2 hds2 hx2 => hk s2 h2 (ha.trans ha2) (hds2.trans hds) hx2) hx) hw
  | .alt i r next, s, h, hk, hw => by
    have one : ((match ops[i]? with | some o => gX L n ops (bif isFree o || memN xs i then some D else none) o s fun s' => drawX L n D ops xs r s' k | none => .fail) : X).wp c P ro n h QX →
        ((match ops[i]? with | some o => gX L n ops (bif isFree o || memN xs i then some D else none) o s fun s' => drawX L n D ops xs r s' k' | none => .fail) : X).wp c P ro n h QX' := by
      intro hw
      cases hi : ops[i]? with
      | none => rw [hi] at hw; exact hw.elim
      | some o =>
        rw [hi] at hw
        exact g_mono (hM i o hi) (fun s' h' ha hds hx => drawX_mono hM r s' h' (fun s2 h2 ha2 hds2 hx2 => hk s2 h2 (ha.trans ha2) (hds2.trans hds) hx2) hx) hw
    cases next with
    | non => exact one hw
    | fin => exact ⟨one hw.1, drawX_mono hM _ s h hk hw.2⟩
    | free _ _ => exact ⟨one hw.1, drawX_mono hM _ s h hk hw.2⟩
    | alt _ _ _ => exact ⟨one hw.1, drawX_mono hM _ s h hk hw.2⟩
  | .non, _, _, _, hw => hw.elim
end mono

theorem wp_draw {L : Lay} {n : Nat} {c : World} {QX : Exit → St → Hp → Prop} (hL : LayOk L P) (hmix : P.follows .mixedOrders = true) {id : Nat} {s : St} {k : St → X} {h : Hp} (ord : Ord) (hok : okDraw ops xs ord = true)
    (hw : (drawX L n D ops xs ord s k).wp c P ro n h QX) : (X.draw id ops s k).wp c P ro n h QX := by
  simp only [okDraw, Bool.and_eq_true, List.all_eq_true] at hok
  obtain ⟨⟨⟨h1, h2⟩, h3⟩, h4⟩ := hok
  intro w a hh hc ha
  subst hh
  have hw2 := drawX_mono (M := opsMod ops.toList) (k' := fun s' => X.done .normal s') (QX' := fun _ s' h' => Agr (opsMod ops.toList) s s' ∧ s'.ds = s.ds ∧ (k s').wp c P ro n h' QX)
    (fun i o hi t ht => opsMod_mem ops.toList o t (by simpa using Array.mem_of_getElem? hi) ht) ord s w.heap (fun s' h' a b x => ⟨a, b, x⟩) hw
  refine wpIn_region_any hmix (wpAE_any (D := D) (xs := xs) _ _ _ _ ?_)
  refine draw_walk hL (fun j o hj => h4 o (by simpa using Array.mem_of_getElem? hj)) (fun c a w hx => by obtain ⟨s', he, _⟩ := hx; cases he) _ (QX := fun _ s' h' => Agr (opsMod ops.toList) s s' ∧ s'.ds = s.ds ∧ (k s').wp c P ro n h' QX) ?_
    ord ops.size _ s a { w with drawn := w.drawn + 1 } (Nat.le_of_ble_eq_true h3) (by simpa using h1) (by simpa using h2) (fun j o hj => by
      exfalso
      simp only [Array.getD_eq_getD_getElem?, Array.getElem?_replicate] at hj
      split at hj <;> cases hj) hw2 ha ⟨hc.os, hc.tape, hc.output⟩
  intro s' a' w' hr hc' hx
  exact ⟨s', rfl, hr, hx.1, hx.2.1, hc', hx.2.2⟩

theorem wp_ord {L : Lay} {n : Nat} {c : World} {QX : Exit → St → Hp → Prop} (hL : LayOk L P) (hmix : P.follows .mixedOrders = true) {id : Nat} {s : St} {k : St → X} {h : Hp} (l : List (Nat × Nat)) (xs : List Nat) (hok : okDraw ops xs (seqO ops (rs l)) = true)
    (hw : (drawX L n [] ops xs (seqO ops (rs l)) s k).wp c P ro n h QX) : (X.draw id ops s k).wp c P ro n h QX := wp_draw hL hmix _ hok hw
theorem wp_ordD {L : Lay} {n : Nat} {c : World} {QX : Exit → St → Hp → Prop} (hL : LayOk L P) (hmix : P.follows .mixedOrders = true) {id : Nat} {s : St} {k : St → X} {h : Hp} (D : List Nat) (l : List (Nat × Nat)) (xs : List Nat) (hok : okDraw ops xs (seqO ops (rs l)) = true)
    (hw : (drawX L n D ops xs (seqO ops (rs l)) s k).wp c P ro n h QX) : (X.draw id ops s k).wp c P ro n h QX := wp_draw hL hmix _ hok hw
end
end Go.Xe
