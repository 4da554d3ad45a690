/- The rules by which the tree of a body is walked. -/
import Derived.Test.YtebbgoklldmkiaaGreatQ3
namespace Go.Xe
open Go

theorem Agr.refl (M : Nat → Bool) (s : St) : Agr M s s := fun _ _ => rfl
theorem Agr.trans {M : Nat → Bool} {a b c : St} (h : Agr M a b) (h' : Agr M b c) : Agr M a c := fun t ht => (h' t ht).trans (h t ht)
theorem Agr.mono {M M' : Nat → Bool} {a b : St} (h : Agr M a b) (hm : ∀ t, M t = true → M' t = true) : Agr M' a b := fun t ht => h t (by
  cases hx : M t with
  | false => rfl
  | true => rw [hm t hx] at ht; cases ht)
theorem Agr.put {M : Nat → Bool} (s : St) (d : Option Nat) (v : Value) (h : ∀ t, d = some t → M t = true) : Agr M s (s.put d v) := fun t ht => by
  cases d with
  | none => rfl
  | some d =>
    simp only [St.put, upd]
    cases hb : Nat.beq t d with
    | false => rfl
    | true =>
      have := h d rfl
      rw [← Nat.eq_of_beq_eq_true hb, ht] at this
      cases this

def noRF : Code → Bool
  | .seq a b => noRF a && noRF b
  | .cond _ a b => noRF a && noRF b
  | .block _ a => noRF a
  | .loop a => noRF a
  | .rangeFunc .. => false
  | _ => true

section
variable {L : Lay} {P : Program} {c : World} {ro : Option Nat} {n : Nat}

theorem Fr.ds_put (s : St) (d : Option Nat) (v : Value) : (s.put d v).ds = s.ds := by cases d <;> rfl

theorem op_mono {M : Nat → Bool} {e : Option (List Nat)} {o : Oper} {s : St} {k k' : St → X} {h : Hp} {Q Q' : Exit → St → Hp → Prop} (hM : ∀ t, o.dst = some t → M t = true)
    (hk : ∀ s' h', Agr M s s' → s'.ds = s.ds → (k s').wp c P ro n h' Q → (k' s').wp c P ro n h' Q') (hw : (opX L n e o s k).wp c P ro n h Q) : (opX L n e o s k').wp c P ro n h Q' := by
  unfold opX at hw ⊢
  cases hd : okDst n o.dst with
  | false => rw [hd] at hw; exact hw.elim
  | true =>
    rw [hd, cond_true] at hw
    rw [cond_true]
    have hp := fun v => Agr.put (M := M) s o.dst v hM
    have hds := fun v => Fr.ds_put s o.dst v
    cases hcl : cl L (ev s.ρ) o with
    | bad => rw [hcl] at hw; exact hw.elim
    | pure v => rw [hcl] at hw; exact hk _ _ (hp _) (hds _) hw
    | chk p v => rw [hcl] at hw; exact ⟨hw.1, hk _ _ (hp _) (hds _) hw.2⟩
    | br t x y => rw [hcl] at hw; exact ⟨fun ht => hk _ _ (hp _) (hds _) (hw.1 ht), fun ht => hk _ _ (hp _) (hds _) (hw.2 ht)⟩
    | load b oo i => rw [hcl] at hw; obtain ⟨v, h1, h2⟩ := hw; exact ⟨v, h1, hk _ _ (hp _) (hds _) h2⟩
    | store b oo i v =>
      rw [hcl] at hw
      cases e with
      | some D =>
        obtain ⟨hD, cs, T, h1, h2, h3, h4, h5⟩ := hw
        exact ⟨hD, cs, T, h1, h2, h3, h4, fun h' a b d => hk _ _ (hp _) (hds _) (h5 h' a b d)⟩
      | none =>
        obtain ⟨cs, T, h1, h2, h3, h4, h5⟩ := hw
        exact ⟨cs, T, h1, h2, h3, h4, fun h' a b d => hk _ _ (hp _) (hds _) (h5 h' a b d)⟩
    | new T cs out => rw [hcl] at hw; exact hk _ _ (hp _) (hds _) hw
    | call f args => rw [hcl] at hw; exact hw.mono fun v h' hv => ⟨hv.1, hk _ _ (hp _) (hds _) hv.2⟩
    | round l args =>
      rw [hcl] at hw
      cases e with
      | some D => exact hw.elim
      | none =>
        intro w hh hc
        obtain ⟨f, tmps, as, bd, h1, h2⟩ := hw w hh hc
        refine ⟨f, tmps, as, bd, h1, h2.mono ?_⟩
        intro x w' hx
        cases x with
        | returned v => exact ⟨hx.1, hk _ _ (hp _) (hds _) hx.2⟩
        | _ => exact hx.elim
    | sem x => rw [hcl] at hw; intro w hh hc; obtain ⟨v, w', h1, h2, h3, h4⟩ := hw w hh hc; exact ⟨v, w', h1, h2, h3, hk _ _ (hp _) (hds _) h4⟩
    | semU x => rw [hcl] at hw; intro w hh hc; obtain ⟨v, w', h1, h2, h3, h4⟩ := hw w hh hc; exact ⟨v, w', h1, h2, h3, hk _ _ (hp _) (hds _) h4⟩

theorem g_mono {M : Nat → Bool} {ops : Array Oper} {e : Option (List Nat)} {o : Oper} {s : St} {k k' : St → X} {h : Hp} {Q Q' : Exit → St → Hp → Prop} (hM : ∀ t, o.dst = some t → M t = true)
    (hk : ∀ s' h', Agr M s s' → s'.ds = s.ds → (k s').wp c P ro n h' Q → (k' s').wp c P ro n h' Q') (hw : (gX L n ops e o s k).wp c P ro n h Q) : (gX L n ops e o s k').wp c P ro n h Q' := by
  unfold gX at hw ⊢
  cases hg : o.guard with
  | none => rw [hg] at hw; exact op_mono hM hk hw
  | some jb =>
    obtain ⟨j, b⟩ := jb
    rw [hg] at hw
    simp only at hw ⊢
    cases hd : (ops[j]?).bind (·.dst) with
    | none => rw [hd] at hw; exact hw.elim
    | some d =>
      rw [hd] at hw
      simp only at hw ⊢
      cases hn : Nat.blt d n with
      | false => rw [hn] at hw; exact hw.elim
      | true =>
        rw [hn, cond_true] at hw
        rw [cond_true]
        cases hv : s.ρ d with
        | bool t =>
          rw [hv] at hw
          simp only at hw ⊢
          have h1 : ∀ t' : Bool, t = t' → Agr M s ⟨upd s.ρ d (.bool t'), s.ds⟩ := fun t' ht => by rw [upd_same (by rw [hv, ht])]; exact Agr.refl _ _
          have hskip : ∀ t' : Bool, t = t' → (bif okDst n o.dst then k (St.put ⟨upd s.ρ d (.bool t'), s.ds⟩ o.dst undef) else .fail).wp c P ro n h Q →
              (bif okDst n o.dst then k' (St.put ⟨upd s.ρ d (.bool t'), s.ds⟩ o.dst undef) else .fail).wp c P ro n h Q' := fun t' ht hx => by
            cases hok : okDst n o.dst with
            | false => rw [hok] at hx; exact hx.elim
            | true => rw [hok] at hx; exact hk _ _ ((h1 t' ht).trans (Agr.put _ _ _ hM)) (Fr.ds_put _ _ _) hx
          have hdo : ∀ t' : Bool, t = t' → (opX L n e o ⟨upd s.ρ d (.bool t'), s.ds⟩ k).wp c P ro n h Q → (opX L n e o ⟨upd s.ρ d (.bool t'), s.ds⟩ k').wp c P ro n h Q' := fun t' ht hx =>
            op_mono hM (fun s' h' ha hds hx => hk s' h' ((h1 t' ht).trans ha) hds hx) hx
          refine ⟨fun ht => ?_, fun ht => ?_⟩
          · have hx := hw.1 ht
            cases b with
            | true => exact hdo _ ht hx
            | false => exact hskip _ ht hx
          · have hx := hw.2 ht
            cases b with
            | true => exact hskip _ ht hx
            | false => exact hdo _ ht hx
        | tuple vs =>
          rw [hv] at hw
          simp only at hw ⊢
          cases hok : okDst n o.dst with
          | false => rw [hok] at hw; exact hw.elim
          | true => rw [hok] at hw; exact hk _ _ (Agr.put _ _ _ hM) (Fr.ds_put _ _ _) hw
        | _ => rw [hv] at hw; exact hw.elim

theorem ops_mono {M : Nat → Bool} {ops : Array Oper} {k k' : St → X} {Q Q' : Exit → St → Hp → Prop} : ∀ (l : List Oper) (s : St) (h : Hp), (∀ t, opsMod l t = true → M t = true) →
    (∀ s' h', Agr M s s' → s'.ds = s.ds → (k s').wp c P ro n h' Q → (k' s').wp c P ro n h' Q') → (opsX L n ops l s k).wp c P ro n h Q → (opsX L n ops l s k').wp c P ro n h Q'
  | [], s, h, _, hk, hw => hk s h (Agr.refl _ _) rfl hw
  | o :: rest, s, h, hM, hk, hw =>
    g_mono (M := M) (fun t ht => hM t (by simp [opsMod, ht])) (fun s' h' ha hds hx =>
      ops_mono rest s' h' (fun t ht => hM t (by simp [opsMod, ht])) (fun s2 h2 ha2 hds2 hx2 => hk s2 h2 (ha.trans ha2) (hds2.trans hds) hx2) hx) hw

theorem pe_mono {M : Nat → Bool} : ∀ (cd : Code) (s : St) (k k' : Exit → St → X) (h : Hp) (Q Q' : Exit → St → Hp → Prop), (∀ t, modB cd t = true → M t = true) →
    (∀ e s' h', Agr M s s' → (noRF cd = true → s'.ds = s.ds) → (k e s').wp c P ro n h' Q → (k' e s').wp c P ro n h' Q') → (pe L n cd s k).wp c P ro n h Q → (pe L n cd s k').wp c P ro n h Q'
  | .skip, s, _, _, h, _, _, _, hk, hw => hk _ s h (Agr.refl _ _) (fun _ => rfl) hw
  | .ret, s, _, _, h, _, _, _, hk, hw => hk _ s h (Agr.refl _ _) (fun _ => rfl) hw
  | .exit _, s, _, _, h, _, _, _, hk, hw => hk _ s h (Agr.refl _ _) (fun _ => rfl) hw
  | .region _ ops false, s, _, _, h, _, _, hM, hk, hw => ops_mono ops.toList s h hM (fun s' h' ha hds hx => hk _ s' h' ha (fun _ => hds) hx) hw
  | .region _ ops true, s, _, _, h, _, _, hM, hk, hw => fun w a hh hc ha => wpIn_mono (hw w a hh hc ha) fun e a' w' ⟨s', he, h1, h2, h3, h4, h5⟩ =>
      ⟨s', he, h1, h2, h3, h4, hk _ s' _ (h2.mono hM) (fun _ => h3) h5⟩
  | .seq x y, s, k, k', h, Q, Q', hM, hk, hw => by
    refine pe_mono (M := M) x s _ _ h Q Q' (fun t ht => hM t (by simp [modB, ht])) (fun e s' h' ha hds hx => ?_) hw
    cases e with
    | normal =>
      exact pe_mono (M := M) y s' k k' h' Q Q' (fun t ht => hM t (by simp [modB, ht])) (fun e2 s2 h2 ha2 hds2 hx2 =>
        hk e2 s2 h2 (ha.trans ha2) (fun hn => by simp only [noRF, Bool.and_eq_true] at hn; exact (hds2 hn.2).trans (hds hn.1)) hx2) hx
    | ret => exact hk _ s' h' ha (fun hn => by simp only [noRF, Bool.and_eq_true] at hn; exact hds hn.1) hx
    | exit id => exact hk _ s' h' ha (fun hn => by simp only [noRF, Bool.and_eq_true] at hn; exact hds hn.1) hx
    | _ => exact hx.elim
  | .cond t x y, s, k, k', h, Q, Q', hM, hk, hw => by
    simp only [pe] at hw ⊢
    cases hv : ev s.ρ t with
    | bool b =>
      rw [hv] at hw
      refine ⟨fun hb => ?_, fun hb => ?_⟩
      · exact pe_mono (M := M) x s k k' h Q Q' (fun t ht => hM t (by simp [modB, ht])) (fun e s' h' ha hds hx => hk e s' h' ha (fun hn => by simp only [noRF, Bool.and_eq_true] at hn; exact hds hn.1) hx) (hw.1 hb)
      · exact pe_mono (M := M) y s k k' h Q Q' (fun t ht => hM t (by simp [modB, ht])) (fun e s' h' ha hds hx => hk e s' h' ha (fun hn => by simp only [noRF, Bool.and_eq_true] at hn; exact hds hn.2) hx) (hw.2 hb)
    | _ => rw [hv] at hw; exact hw.elim
  | .block id x, s, k, k', h, Q, Q', hM, hk, hw => by
    refine pe_mono (M := M) x s _ _ h Q Q' hM (fun e s' h' ha hds hx => ?_) hw
    cases e with
    | normal => exact hk _ s' h' ha hds hx
    | ret => exact hk _ s' h' ha hds hx
    | exit j =>
      simp only at hx ⊢
      cases hb : Nat.beq j id with
      | true => simp only [hb, cond_true] at hx ⊢; exact hk _ s' h' ha hds hx
      | false => simp only [hb, cond_false] at hx ⊢; exact hk _ s' h' ha hds hx
    | _ => exact hx.elim
  | .loop x, s, k, k', h, Q, Q', hM, hk, hw => fun w a hh hc ha => wpIn_mono (hw w a hh hc ha) fun e a' w' ⟨s', h1, h2, h3, h4, h5⟩ =>
      ⟨s', h1, h2, h3, h4, hk _ s' _ (h2.mono hM) (fun _ => h3) h5⟩
  | .rangeFunc g ps as bd, s, k, k', h, Q, Q', hM, hk, hw => fun w a hh hc ha => wpIn_mono (hw w a hh hc ha) fun e a' w' ⟨s', h1, h2, h4, h5⟩ =>
      ⟨s', h1, h2, h4, hk _ s' _ (h2.mono (fun _ ht => by cases ht)) (fun hn => by cases hn) h5⟩
  | .scope _, _, _, _, _, _, _, _, _, hw => hw.elim
  | .label _, _, _, _, _, _, _, _, _, hw => hw.elim
  | .goto _, _, _, _, _, _, _, _, _, hw => hw.elim
  | .refuse _, _, _, _, _, _, _, _, _, hw => hw.elim
end
end Go.Xe
