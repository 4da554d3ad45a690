/- What holds of the tree of a body holds of the code: the proof, second part. -/
import Derived.Test.YtebbgoklldmkiaaGreatQ2
namespace Go.Xe
open Go

/-! ### from the tree to the code -/
section sound
variable {L : Lay} {P : Program} {c : World} {ro : Option Nat} {n : Nat}

theorem semAt_eq (o : Oper) (ρ : Operand → Value) (h : ∀ k, o.op ≠ .defer k) : Oper.semAt ro ρ o = execOp ρ o := by
  cases ro with
  | none => rfl
  | some l => exact Oper.semAt_some l ρ o h

theorem cl_defer (ρ : Operand → Value) (o : Oper) (h : cl L ρ o ≠ .bad) : ∀ k, o.op ≠ .defer k := by
  intro k hk
  exact h (by unfold cl; rw [hk])

theorem setRow_heap' (w : World) (b : Nat) (cs cs' : Array Value) (T : Nat) (fz : Nat × Nat) (hb : w.heap[b]? = some (.cells cs T fz)) :
    (w.setRow b cs').heap.size = w.heap.size ∧ (w.setRow b cs').heap[b]? = some (.cells cs' T fz) ∧ (∀ j, j ≠ b → (w.setRow b cs').heap[j]? = w.heap[j]?) := by
  refine ⟨by simp [World.setRow], setRow_heap w b cs cs' T fz hb, fun j hj => ?_⟩
  simp only [World.setRow, Array.getElem?_modify]
  rw [if_neg (fun h => hj h.symm)]

theorem Ctx.setRow {c w : World} (h : Ctx c w) (b : Nat) (cs : Array Value) : Ctx c (w.setRow b cs) := ⟨h.os, h.tape, h.output⟩
theorem Ctx.alloc {c w : World} (h : Ctx c w) (o : Obj) : Ctx c (w.alloc o) := ⟨h.os, h.tape, h.output⟩

/-- one operation -/
theorem op_sound (hL : LayOk L P) {e : Option (List Nat)} {o : Oper} {s : St} {k : St → X} {h : Hp} {Q : Exit → St → Hp → Prop} (hw : (opX L n e o s k).wp c P ro n h Q)
    {a : Act} {w : World} (ha : Rel n a s) (hh : w.heap = h) (hc : Ctx c w) (K : Act → World → Prop) (Q' : Exit → Act → World → Prop)
    (hK : ∀ a' w' s', Rel n a' s' → Ctx c w' → Kp e h w'.heap → (k s').wp c P ro n w'.heap Q → K a' w') : o.wpIn (Fe ro) 0 P a w K Q' := by
  refine ⟨fun _ _ => trivial, ?_⟩
  subst hh
  unfold opX at hw
  cases hd : okDst n o.dst with
  | false => rw [hd] at hw; exact hw.elim
  | true =>
    rw [hd, cond_true] at hw
    have hs := cl_says (P := P) hL (ev s.ρ) o
    have hput := fun v => ha.put o.dst hd v
    rw [← eval_eq ha] at hw hs
    cases hcl : cl L a.eval o with
    | bad => rw [hcl] at hw; exact hw.elim
    | pure v =>
      rw [hcl] at hw hs
      rw [semAt_eq o a.eval (cl_defer a.eval o (by rw [hcl]; simp)), hs w]
      exact hK _ _ _ (hput v) hc (Kp.refl _ _) hw
    | chk p v =>
      rw [hcl] at hw hs
      rw [semAt_eq o a.eval (cl_defer a.eval o (by rw [hcl]; simp)), hs hw.1 w]
      exact hK _ _ _ (hput v) hc (Kp.refl _ _) hw.2
    | br t x y =>
      rw [hcl] at hw hs
      rw [semAt_eq o a.eval (cl_defer a.eval o (by rw [hcl]; simp)), hs w]
      cases t with
      | true => exact hK _ _ _ (hput x) hc (Kp.refl _ _) (hw.1 rfl)
      | false => exact hK _ _ _ (hput y) hc (Kp.refl _ _) (hw.2 rfl)
    | load b oo i =>
      rw [hcl] at hw hs
      obtain ⟨v, hv, hw⟩ := hw
      rw [semAt_eq o a.eval (cl_defer a.eval o (by rw [hcl]; simp)), hs w v hv]
      exact hK _ _ _ (hput v) hc (Kp.refl _ _) hw
    | store b oo i v =>
      rw [hcl] at hw hs
      cases e with
      | none =>
        obtain ⟨cs, T, hb, h1, h2, h3, hw⟩ := hw
        rw [semAt_eq o a.eval (cl_defer a.eval o (by rw [hcl]; simp)), hs w cs T hb h1 h2 h3]
        obtain ⟨g1, g2, g3⟩ := setRow_heap' w b cs (wrAt cs.toList oo v.cells.toList).toArray T (0, 0) hb
        exact hK _ _ _ (hput undef) (hc.setRow _ _) trivial (hw _ g1 g2 g3)
      | some D =>
        obtain ⟨hD, cs, T, hb, h1, h2, h3, hw⟩ := hw
        rw [semAt_eq o a.eval (cl_defer a.eval o (by rw [hcl]; simp)), hs w cs T hb h1 h2 h3]
        obtain ⟨g1, g2, g3⟩ := setRow_heap' w b cs (wrAt cs.toList oo v.cells.toList).toArray T (0, 0) hb
        exact hK _ _ _ (hput undef) (hc.setRow _ _) ⟨by rw [g1]; exact Nat.le_refl _, fun k _ hk => g3 k (fun e => hk (e ▸ hD))⟩ (hw _ g1 g2 g3)
    | new T cs out =>
      rw [hcl] at hw hs
      rw [semAt_eq o a.eval (cl_defer a.eval o (by rw [hcl]; simp)), hs w]
      exact hK _ _ _ (hput _) (hc.alloc _) (Kp.of _ ⟨by simp, fun b hb _ => by simp only [World.alloc, Array.getElem?_push]; rw [if_neg (by omega)]⟩) hw
    | call f args =>
      rw [hcl] at hw hs
      rw [semAt_eq o a.eval (cl_defer a.eval o (by rw [hcl]; simp)), hs w, hw.1 args w]
      refine ⟨fun h => by simp [Fe, Fence.wide] at h, ?_⟩
      refine CallsIn.mono (R := Ret fun v w' => Ctx c w' ∧ Kp e w.heap w'.heap ∧ (k (s.put o.dst v)).wp c P ro n w'.heap Q) ?_ ?_
      · have := (callsIn_wide (n := 0 - 1)).2 (hw.2 w rfl hc)
        exact this
      · intro x w' hx
        cases x with
        | returned v => exact hK _ _ _ (hput v) hx.1 hx.2.1 hx.2.2
        | _ => exact hx.elim
    | round l args =>
      rw [hcl] at hw hs
      cases e with
      | some D => exact hw.elim
      | none =>
        obtain ⟨f, tmps, as, bd, hy, hr⟩ := hw w rfl hc
        rw [semAt_eq o a.eval (cl_defer a.eval o (by rw [hcl]; simp)), hs w, hy]
        refine ⟨fun h => by simp [Fe, Fence.wide] at h, hr.mono ?_⟩
        intro x w' hx
        cases x with
        | returned v => exact hK _ _ _ (hput v) hx.1 trivial hx.2
        | _ => exact hx.elim
    | sem x =>
      rw [hcl] at hw hs
      obtain ⟨v, w', hr, hc', hchg, hw⟩ := hw w rfl hc
      rw [semAt_eq o a.eval (cl_defer a.eval o (by rw [hcl]; simp)), hs w, hr]
      exact hK _ _ _ (hput v) hc' hchg hw
    | semU x =>
      rw [hcl] at hw hs
      obtain ⟨v, w', hr, hc', hchg, hw⟩ := hw w rfl hc
      rw [semAt_eq o a.eval (cl_defer a.eval o (by rw [hcl]; simp)), hs w, hr]
      exact hK _ _ _ (hput undef) hc' hchg hw

theorem upd_same {ρ : Env} {d : Nat} {v : Value} (h : ρ d = v) : upd ρ d v = ρ := by
  funext t
  unfold upd
  cases hb : Nat.beq t d with
  | false => rfl
  | true => rw [Nat.eq_of_beq_eq_true hb]; exact h.symm

/-- one operation behind its guard -/
theorem g_sound (hL : LayOk L P) {ops : Array Oper} {e : Option (List Nat)} {o : Oper} {s : St} {k : St → X} {h : Hp} {Q : Exit → St → Hp → Prop} (hw : (gX L n ops e o s k).wp c P ro n h Q)
    {a : Act} {w : World} (ha : Rel n a s) (hh : w.heap = h) (hc : Ctx c w) (K : Act → World → Prop) (Q' : Exit → Act → World → Prop)
    (hK : ∀ a' w' s', Rel n a' s' → Ctx c w' → Kp e h w'.heap → (k s').wp c P ro n w'.heap Q → K a' w') :
    (if Region.wanted o (yielded ops a.tmps) then o.wpIn (Fe ro) 0 P a w K Q' else (∀ f, o.about P w a.eval = some f → (Fe ro).fn f) ∧ K (a.put o.dst undef) w) := by
  unfold gX at hw
  cases hg : o.guard with
  | none =>
    rw [hg] at hw
    simp only [Region.wanted, hg, if_true]
    exact op_sound hL hw ha hh hc K Q' hK
  | some jb =>
    obtain ⟨j, b⟩ := jb
    rw [hg] at hw
    simp only at hw
    cases hd : (ops[j]?).bind (·.dst) with
    | none => rw [hd] at hw; exact hw.elim
    | some d =>
      rw [hd] at hw
      simp only at hw
      cases hn : Nat.blt d n with
      | false => rw [hn] at hw; exact hw.elim
      | true =>
        rw [hn, cond_true] at hw
        have hdn : d < n := by simpa [Nat.blt_eq] using hn
        have hcell : a.tmps[d]? = some (s.ρ d) := by
          have h1 := ha.2.2 d
          have h2 : d < a.tmps.size := by rw [ha.1]; exact hdn
          simp only [Array.getD_eq_getD_getElem?, Array.getElem?_eq_getElem h2, Option.getD_some] at h1
          rw [Array.getElem?_eq_getElem h2, h1]
        have hy : yielded ops a.tmps j = (match s.ρ d with | .bool b => some b | _ => none) := by
          unfold yielded
          rw [hd]
          simp only [Option.bind_some, hcell]
          split <;> rename_i hx <;> simp only [Option.some.injEq] at hx <;> first | (rw [hx]) | (split <;> simp_all)
        cases hv : s.ρ d with
        | bool t =>
          rw [hv] at hw hy
          simp only at hw hy
          have ha1 : Rel n a ⟨upd s.ρ d (.bool t), s.ds⟩ := by rw [upd_same hv]; exact ha
          have skip : ∀ b', okDst n o.dst = true → ((k (St.put ⟨upd s.ρ d (.bool t), s.ds⟩ o.dst undef)).wp c P ro n h Q) → b' ≠ t → b = b' →
              (if Region.wanted o (yielded ops a.tmps) then o.wpIn (Fe ro) 0 P a w K Q' else (∀ f, o.about P w a.eval = some f → (Fe ro).fn f) ∧ K (a.put o.dst undef) w) := by
            intro b' hok hk hne hb
            have : Region.wanted o (yielded ops a.tmps) = false := by
              simp only [Region.wanted, hg, hy, hb]
              cases b' <;> cases t <;> simp_all
            rw [this]
            exact ⟨fun _ _ => trivial, hK _ _ _ (ha1.put _ hok _) hc (by rw [hh]; exact Kp.refl _ _) (by rw [hh]; exact hk)⟩
          have doit : b = t → ((opX L n e o ⟨upd s.ρ d (.bool t), s.ds⟩ k).wp c P ro n h Q) →
              (if Region.wanted o (yielded ops a.tmps) then o.wpIn (Fe ro) 0 P a w K Q' else (∀ f, o.about P w a.eval = some f → (Fe ro).fn f) ∧ K (a.put o.dst undef) w) := by
            intro hb hk
            have : Region.wanted o (yielded ops a.tmps) = true := by
              simp only [Region.wanted, hg, hy, hb]
              cases t <;> rfl
            rw [this, if_pos rfl]
            exact op_sound hL hk ha1 hh hc K Q' hK
          cases t with
          | true =>
            have hw := hw.1 rfl
            cases b with
            | true => exact doit rfl hw
            | false =>
              simp only [cond_false] at hw
              cases hok : okDst n o.dst with
              | false => rw [hok] at hw; exact hw.elim
              | true => rw [hok] at hw; exact skip false hok hw (by simp) rfl
          | false =>
            have hw := hw.2 rfl
            cases b with
            | false => exact doit rfl hw
            | true =>
              simp only [cond_true] at hw
              cases hok : okDst n o.dst with
              | false => rw [hok] at hw; exact hw.elim
              | true => rw [hok] at hw; exact skip true hok hw (by simp) rfl
        | tuple vs =>
          rw [hv] at hw hy
          simp only at hw hy
          have hnw : Region.wanted o (yielded ops a.tmps) = false := by
            simp only [Region.wanted, hg, hy]
            cases b <;> rfl
          rw [hnw]
          cases hok : okDst n o.dst with
          | false => rw [hok] at hw; exact hw.elim
          | true =>
            rw [hok] at hw
            exact ⟨fun _ _ => trivial, hK _ _ _ (ha.put _ hok _) hc (by rw [hh]; exact Kp.refl _ _) (by rw [hh]; exact hw)⟩
        | _ => rw [hv] at hw; exact hw.elim

theorem ops_sound (hL : LayOk L P) {ops : Array Oper} {Q : Exit → St → Hp → Prop} {k : St → X} (Q' : Exit → Act → World → Prop)
    (hQ : ∀ a' w' s', Rel n a' s' → Ctx c w' → (k s').wp c P ro n w'.heap Q → Q' .normal a' w') :
    ∀ (l : List Oper) (s : St) (a : Act) (w : World), (opsX L n ops l s k).wp c P ro n w.heap Q → Rel n a s → Ctx c w → wpListIn (Fe ro) 0 P ops Q' l a w
  | [], s, a, w, hw, ha, hc => hQ a w s ha hc hw
  | _ :: rest, _, _, _, hw, ha, hc =>
    g_sound hL (k := fun s' => opsX L n ops rest s' k) hw ha rfl hc (wpListIn (Fe ro) 0 P ops Q' rest) Q' fun a' w' s' ha' hc' _ hw' => ops_sound hL Q' hQ rest s' a' w' hw' ha' hc'

/-- the code -/
theorem pe_sound (hL : LayOk L P) : ∀ (cd : Code) (s : St) (k : Exit → St → X) (Q : Exit → St → Hp → Prop) (a : Act) (w : World),
    (pe L n cd s k).wp c P ro n w.heap Q → Rel n a s → Ctx c w →
    cd.wpIn (Fe ro) 0 P (fun e a' w' => ∃ s', Rel n a' s' ∧ Ctx c w' ∧ (k e s').wp c P ro n w'.heap Q) a w
  | .skip, s, k, Q, a, w, hw, ha, hc => wpIn_skip ⟨s, ha, hc, hw⟩
  | .ret, s, k, Q, a, w, hw, ha, hc => wpIn_ret ⟨s, ha, hc, hw⟩
  | .exit id, s, k, Q, a, w, hw, ha, hc => wpIn_exit ⟨s, ha, hc, hw⟩
  | .region id ops false, s, k, Q, a, w, hw, ha, hc =>
    wpIn_region_list (ops_sound hL _ (fun a' w' s' ha' hc' hw' => ⟨s', ha', hc', hw'⟩) ops.toList s a w hw ha hc)
  | .region id ops true, s, k, Q, a, w, hw, ha, hc =>
    wpIn_mono (hw w a rfl hc ha) fun e a' w' ⟨s', he, h1, _, _, h2, h3⟩ => by subst he; exact ⟨s', h1, h2, h3⟩
  | .seq x y, s, k, Q, a, w, hw, ha, hc => by
    refine wpIn_seq (wpIn_mono (pe_sound hL x s _ Q a w hw ha hc) ?_)
    rintro e a' w' ⟨s', h1, h2, h3⟩
    cases e with
    | normal => exact pe_sound hL y s' k Q a' w' h3 h1 h2
    | ret => exact ⟨s', h1, h2, h3⟩
    | exit id => exact ⟨s', h1, h2, h3⟩
    | _ => exact h3.elim
  | .cond t x y, s, k, Q, a, w, hw, ha, hc => by
    simp only [pe] at hw
    cases hv : ev s.ρ t with
    | bool b =>
      rw [hv] at hw
      refine wpIn_cond_split (t := b) (by rw [eval_eq ha]; exact hv) (fun hb => ?_) (fun hb => ?_)
      · exact pe_sound hL x s k Q a w (hw.1 hb) ha hc
      · exact pe_sound hL y s k Q a w (hw.2 hb) ha hc
    | _ => rw [hv] at hw; exact hw.elim
  | .block id x, s, k, Q, a, w, hw, ha, hc => by
    refine wpIn_block (wpIn_mono (pe_sound hL x s _ Q a w hw ha hc) ?_)
    rintro e a' w' ⟨s', h1, h2, h3⟩
    cases e with
    | normal => exact ⟨s', h1, h2, h3⟩
    | ret => exact ⟨s', h1, h2, h3⟩
    | exit j =>
      simp only [Exit.inBlock]
      cases hb : Nat.beq j id with
      | true =>
        simp only [hb, cond_true] at h3
        rw [if_pos (Nat.eq_of_beq_eq_true hb)]
        exact ⟨s', h1, h2, h3⟩
      | false =>
        simp only [hb, cond_false] at h3
        rw [if_neg (fun h => by rw [h, Nat.beq_refl] at hb; cases hb)]
        exact ⟨s', h1, h2, h3⟩
    | _ => exact h3.elim
  | .loop x, s, k, Q, a, w, hw, ha, hc => wpIn_mono (hw w a rfl hc ha) fun e a' w' ⟨s', h1, _, _, h2, h3⟩ => ⟨s', h1, h2, h3⟩
  | .rangeFunc g ps as bd, s, k, Q, a, w, hw, ha, hc => wpIn_mono (hw w a rfl hc ha) fun e a' w' ⟨s', h1, _, h2, h3⟩ => ⟨s', h1, h2, h3⟩
  | .scope _, _, _, _, _, _, hw, _, _ => hw.elim
  | .label _, _, _, _, _, _, hw, _, _ => hw.elim
  | .goto _, _, _, _, _, _, hw, _, _ => hw.elim
  | .refuse _, _, _, _, _, _, hw, _, _ => hw.elim
end sound
end Go.Xe
