/- Lemmas on the way: find and tell. Moves; what receive tells the totals. stock.name. -/
import Derived.Test.YtebbgoklldmkiaaGreatQ24
namespace Go.Xe
open Go Go.Proofs
set_option maxRecDepth 20000
variable {c : World}
/-- what find answers -/
def FindR (M : List Nat) (h' : Hp) (bs : List (Int × BaleR)) (no : Int) (states : List Int) (v : Value) : Prop :=
  match getL eqI no bs with
  | none => v = .tuple #[vBale zBaleR zBalP, .int .i64 7]
  | some r => bif states.contains r.state then ∃ q, v = .tuple #[vBale r q, .int .i64 0] ∧ BalOk M h' r q else v = .tuple #[vBale zBaleR zBalP, .int .i64 10]

theorem find_c (M Ms : List Nat) (sb : Nat) (p : StP) (σ : StateR) (no : Int) (states : List Int) (a : Option Addr) (cap : Nat) (h : Hp) (hsb : StBlk h sb p) (hσ : StOk M h p σ) (hs : IntsAt Ms h a cap states) (hz : states.length < 900000) :
    Call c Tryz.prog 158 #[.pointer (some ⟨sb, 0, none⟩), .int .i64 no, .slice a states.length cap] h fun v h' => FindR M h' σ.bales no states v ∧ Chg [] h h' := by
  obtain ⟨ys, hm, ha⟩ := hσ.bales
  refine call_ofM layOk 35 Tryz.func158 Tryz.ntmps158 rfl rfl rfl ?_
  refine wp_new ?_
  intro b h1 hN
  have hc1 := hN.chg []
  refine wp_load (ld_of (hN.of hsb) rfl) ?_
  refine wp_call (BI.get_c M ys no p.b h1 (hm.ext hc1)) ?_
  rcases ha.get eqI no with ⟨e1, e2⟩ | ⟨bk, r, e1, e2, hb⟩
  · rintro _ h2 ⟨rfl, hc2⟩
    unfold BI.getV
    rw [e1]
    refine wp_brT rfl ?_
    refine wp_store (hc2.of hN.here (by simp)) (by rfl) ?_
    intro h3 hU3
    refine wp_done (finM_at [_, _] rfl ⟨⟨_, _, _, rfl, rfl, ld_of hU3.here rfl⟩, rfl, trivial⟩ ⟨?_, hU3.chgGe (hc1.trans hc2) hN.le⟩)
    unfold FindR
    rw [e2]
    rfl
  · rintro _ h2 ⟨rfl, hc2⟩
    obtain ⟨q, hbM, hbb, hq⟩ := hb
    have hc := hc1.trans hc2
    unfold BI.getV
    rw [e1]
    refine wp_brF rfl ?_
    refine wp_load (ld_of (hc.of hbb (by simp)) rfl) ?_
    refine wp_call (contains_c Ms states r.state a cap h2 (hs.ext hc) hz) ?_
    rintro _ _ ⟨rfl, rfl⟩
    refine wp_br (fun h5 => ?_) (fun h5 => ?_)
    · have hcn : states.contains r.state = false := by cases hx : states.contains r.state with | false => rfl | true => rw [hx] at h5; cases h5
      refine wp_store (hc2.of hN.here (by simp)) (by rfl) ?_
      intro h3 hU3
      refine wp_done (finM_at [_, _] rfl ⟨⟨_, _, _, rfl, rfl, ld_of hU3.here rfl⟩, rfl, trivial⟩ ⟨?_, hU3.chgGe hc hN.le⟩)
      unfold FindR
      rw [e2]
      simp only [hcn, cond_false]
      rfl
    · have hcn : states.contains r.state = true := by cases hx : states.contains r.state with | true => rfl | false => rw [hx] at h5; cases h5
      refine wp_load (v := vBale r q) (ld_of (hc.of hbb (by simp)) rfl) ?_
      refine wp_store (hc2.of hN.here (by simp)) (by rfl) ?_
      intro h3 hU3
      have hc3 := hU3.chgGe hc hN.le
      refine wp_done (finM_n [vBale r q, .int .i64 0] rfl ⟨⟨_, _, _, rfl, rfl, ld_of hU3.here rfl⟩, rfl, trivial⟩ ⟨?_, hc3⟩)
      unfold FindR
      rw [e2]
      simp only [hcn, cond_true]
      exact ⟨q, rfl, hq.ext hc3⟩

def zTotR : TotR := ⟨0, 0, 0, 0, 0, 0⟩
def totOf (ts : List (Int × TotR)) (clip : Int) : TotR := (getL eqI clip ts).getD zTotR
theorem tell_c (M : List Nat) (sb : Nat) (p : StP) (σ : StateR) (clip : Int) (f : Nat) (cv : List Value) (F : TotR → TotR) (h : Hp) (hM : Bd M h) (hsM : sb ∈ M) (hsb : StBlk h sb p) (hσ : StOk M h p σ) (hz : σ.totals.length < 900000)
    (hf : ∀ tb h1 t, Chg [] h h1 → h.size ≤ tb → h1[tb]? = some (.cells (elTot t).toArray 119 (0, 0)) → Call c Tryz.prog f (Value.pointer (some ⟨tb, 0, none⟩) :: cv).toArray h1 fun _ h2 => h2[tb]? = some (.cells (elTot (F t)).toArray 119 (0, 0)) ∧ Chg [tb] h1 h2) :
    Call c Tryz.prog 155 #[.pointer (some ⟨sb, 0, none⟩), .int .i64 clip, .func (.func f) #[] cv.toArray] h fun _ h' => ∃ p', StBlk h' sb p' ∧ StOk M h' p' { σ with totals := insL ltI clip (F (totOf σ.totals clip)) σ.totals } ∧ Chg [sb] h h' := by
  have hgv : ∃ bo, TI.getV clip σ.totals = .tuple #[vTot (totOf σ.totals clip), .bool bo] := by
    unfold TI.getV totOf
    cases getL eqI clip σ.totals with
    | none => exact ⟨false, rfl⟩
    | some t => exact ⟨true, rfl⟩
  obtain ⟨bo, hgv⟩ := hgv
  have hget := TI.get_c (c := c) M σ.totals clip p.t h hσ.totals
  rw [hgv] at hget
  refine call_of layOk 29 Tryz.func155 Tryz.ntmps155 rfl rfl rfl rfl ?_
  refine wp_load (ld_of hsb rfl) ?_
  refine wp_call hget ?_
  rintro _ h1 ⟨rfl, hc1⟩
  refine wp_new ?_
  intro tb h2 hN
  refine wp_store hN.here (by rfl) ?_
  intro h3 hU3
  have hc2 := hN.chg []
  have hc3 : Chg [] h h3 := hU3.chgGe (hc1.trans hc2) (Nat.le_trans hc1.size hN.le)
  have hcall := hf tb h3 (totOf σ.totals clip) hc3 (Nat.le_trans hc1.size hN.le) hU3.here
  refine wp_call hcall ?_
  rintro _ h4 ⟨ht4, hc4⟩
  have hc04 : Chg [] h h4 := hc3.fresh hc4 (by intro m hm; rcases List.mem_singleton.1 hm with rfl; exact .inr (Nat.le_trans hc1.size hN.le))
  refine wp_ord layOk mixed [(0, 10)] [] (by kernel_rfl) ?_
  refine wp_load (ld_of (hc04.of hsb (by simp)) rfl) ?_
  refine wp_load (v := vTot (F (totOf σ.totals clip))) (ld_of ht4 rfl) ?_
  refine wp_call (TI.mput_c M σ.totals clip _ p.t h4 (hM.chg hc04) (hσ.ext hc04).totals hz) ?_
  rintro _ h5 ⟨q2, rfl, hc5, hm5⟩
  have hc05 := hc04.trans hc5
  refine wp_store (hc05.of hsb (by simp)) (by rfl) ?_
  intro h6 hU
  have hc6 : Chg [sb] h5 h6 := hU.chg (by simp)
  have hs : ∀ m, m ∈ [sb] → m ∈ M := fun m hm => by rcases List.mem_singleton.1 hm with rfl; exact hsM
  have h9 := (hσ.ext hc05).chg hc6 hs
  exact wp_done ⟨rfl, { p with t := q2 }, hU.here, ⟨h9.clips, h9.names, h9.bales, h9.lots, hm5.chg hc6 hs⟩, (hc05.mono (by simp)).trans hc6⟩
end Go.Xe
namespace Go.Xe
open Go Go.Proofs
set_option maxRecDepth 20000
variable {c : World}
structure MoveR where
  what : Int
  no : Int
  nos : List Int
  grams : Int
  kind : KindR
  name : ByteArray
  owner : ByteArray
def elMove (m : MoveR) (a : Option Addr) (cap : Nat) : List Value :=
  [.int .i64 m.what, .int .i64 m.no, .slice a m.nos.length cap, .int .i64 m.grams, .int .u8 m.kind.k0, .int .u8 m.kind.k1, .int .u8 m.kind.k2, .int .u8 m.kind.k3, .string m.name, .string m.owner]
def vMove (m : MoveR) (a : Option Addr) (cap : Nat) : Value :=
  .agg #[.int .i64 m.what, .int .i64 m.no, .slice a m.nos.length cap, .int .i64 m.grams, .int .u8 m.kind.k0, .int .u8 m.kind.k1, .int .u8 m.kind.k2, .int .u8 m.kind.k3, .string m.name, .string m.owner]
abbrev W (x : Int) : Int := IntKind.i64.wrap x
def recvT (g : Int) (t : TotR) : TotR := { t with inn := W (t.inn + g), live := W (t.live + g) }
theorem recvT_c (m : MoveR) (a : Option Addr) (cap : Nat) (mb tb : Nat) (t : TotR) (h : Hp) (hmb : h[mb]? = some (.cells (elMove m a cap).toArray 54 (0, 0))) (htb : h[tb]? = some (.cells (elTot t).toArray 119 (0, 0))) :
    Call c Tryz.prog 156 (Value.pointer (some ⟨tb, 0, none⟩) :: [Value.pointer (some ⟨mb, 0, none⟩)]).toArray h fun _ h' => h'[tb]? = some (.cells (elTot (recvT m.grams t)).toArray 119 (0, 0)) ∧ Chg [tb] h h' := by
  have hne : mb ≠ tb := by
    intro e
    subst e
    rw [hmb] at htb
    injection htb with htb
    injection htb with _ h2 _
    cases h2
  refine call_of layOk 21 Tryz.func156 Tryz.ntmps156 rfl rfl rfl rfl ?_
  refine wp_ord layOk mixed [(0, 9)] [] (by kernel_rfl) ?_
  refine wp_load (ld_of htb rfl) ?_
  refine wp_load (ld_of hmb rfl) ?_
  refine wp_store htb (by rfl) ?_
  intro h1 hU1
  have hmb1 := hU1.of hmb hne
  refine wp_ord layOk mixed [(0, 9)] [] (by kernel_rfl) ?_
  refine wp_load (ld_of hU1.here rfl) ?_
  refine wp_load (ld_of hmb1 rfl) ?_
  refine wp_store hU1.here (by rfl) ?_
  intro h2 hU2
  exact wp_done ⟨rfl, hU2.here, (hU1.chg (by simp)).trans (hU2.chg (by simp))⟩
end Go.Xe
namespace Go.Xe
open Go Go.Proofs
set_option maxRecDepth 20000
variable {c : World}
def okCh (x : Int) : Bool := !((decide (x < 97) || decide (x > 122)) && (decide (x < 48) || decide (x > 57)) && (x != 45))
def firstN (s : ByteArray) (n : Nat) : Bool := (List.range n).all fun i => okCh (byteAt s (i : Int))
def nameB (s : ByteArray) : Bool := !(s.toList == (ByteArray.mk #[]).toList) && !(decide ((s.size : Int) > 16)) && !(decide (byteAt s 0 < 97)) && !(decide (byteAt s 0 > 122)) && firstN s s.size
theorem firstN_succ (s : ByteArray) (n : Nat) : firstN s (n + 1) = (firstN s n && okCh (byteAt s (n : Int))) := by
  simp [firstN, List.range_succ]
theorem firstN_false (s : ByteArray) {n m : Nat} (h : n < m) (hf : okCh (byteAt s (n : Int)) = false) : firstN s m = false := by
  unfold firstN
  rw [List.all_eq_false]
  exact ⟨n, List.mem_range.2 h, by rw [hf]; simp⟩
theorem name_c (s : ByteArray) (h : Hp) : Call c Tryz.prog 151 #[.string s] h fun v h' => v = .bool (nameB s) ∧ h' = h := by
  refine call_of layOk 49 Tryz.func151 Tryz.ntmps151 rfl rfl rfl rfl ?_
  refine wp_br (fun h1 => ?_) (fun h1 => ?_)
  · repeat refine wp_brT rfl ?_
    exact wp_done ⟨rfl, congrArg Value.bool (by unfold nameB; rw [show (s.toList == (ByteArray.mk #[]).toList) = true from h1]; rfl), rfl⟩
  · have e1 : (s.toList == (ByteArray.mk #[]).toList) = false := h1
    have hpos : 0 < s.size := by
      rcases Nat.eq_zero_or_pos s.size with h0 | h0
      · exfalso
        rw [Lib.toList_data, Lib.toList_data] at e1
        have : s.data.toList = [] := List.eq_nil_of_length_eq_zero (by simpa using h0)
        rw [this] at e1
        simp at e1
      · exact h0
    repeat refine wp_brF rfl ?_
    refine wp_br (fun h2 => ?_) (fun h2 => ?_)
    · repeat refine wp_brT rfl ?_
      exact wp_done ⟨rfl, congrArg Value.bool (by simp only [nameB, show decide ((s.size : Int) > 16) = true from h2]; simp), rfl⟩
    · have e2 : decide ((s.size : Int) > 16) = false := h2
      have e2' := of_decide_eq_false e2
      repeat (first | refine wp_brF rfl ?_ | refine wp_chk ⟨by omega, by omega⟩ ?_)
      refine wp_br (fun h3 => ?_) (fun h3 => ?_)
      · repeat refine wp_brT rfl ?_
        exact wp_done ⟨rfl, congrArg Value.bool (by simp only [nameB, show decide (byteAt s 0 < 97) = true from h3]; simp), rfl⟩
      · have e3 : decide (byteAt s 0 < 97) = false := h3
        repeat (first | refine wp_brF rfl ?_ | refine wp_chk ⟨by omega, by omega⟩ ?_)
        refine wp_br (fun h4 => ?_) (fun h4 => ?_)
        · exact wp_done ⟨rfl, congrArg Value.bool (by simp only [nameB, show decide (byteAt s 0 > 122) = true from h4]; simp), rfl⟩
        · have e4 : decide (byteAt s 0 > 122) = false := h4
          have hn : nameB s = firstN s s.size := by simp only [nameB, e1, e2, e3, e4]; simp
          refine wp_loopK layOk [24, 2, 3, 4] 25 48 rfl [0, 23] [.string s, .int .i64 s.size] rfl [] rfl (fun m vals h' => ∃ (j : Nat) (u1 u2 u3 : Value), vals = [.int .i64 j, u1, u2, u3] ∧ h' = h ∧ j + m = s.size ∧ firstN s j = true) s.size ⟨0, _, _, _, rfl, rfl, by omega, rfl⟩ ?_
          rintro ρ0 m g vals h' - ⟨j, u1, u2, u3, rfl, rfl, hm, hf⟩
          refine wp_br (fun h5 => ?_) (fun h5 => ?_)
          · have hj' : (j : Int) < (s.size : Int) := of_decide_eq_true h5
            clear h5
            refine wp_chk ⟨by omega, by omega⟩ ?_
            have hno : okCh (byteAt s j) = false → nameB s = false := fun hx => hn.trans (firstN_false s (by omega) hx)
            have hyes : okCh (byteAt s j) = true → firstN s (j + 1) = true := fun hx => by rw [firstN_succ, hf, hx]; rfl
            have hwj : IntKind.i64.wrap ((j : Int) + 1) = ((j + 1 : Nat) : Int) := by rw [w64 (by omega) (by omega)]; omega
            refine wp_br (fun c1 => ?_) (fun c1 => ?_)
            · have d1 : decide (byteAt s (j : Int) < 97) = true := c1
              repeat (first | refine wp_brT rfl ?_ | refine wp_brF rfl ?_)
              refine wp_br (fun c3 => ?_) (fun c3 => ?_)
              · have d3 : decide (byteAt s (j : Int) < 48) = true := c3
                repeat (first | refine wp_brT rfl ?_ | refine wp_brF rfl ?_)
                refine wp_br (fun c5 => ?_) (fun c5 => ?_)
                · have d5 : (byteAt s (j : Int) != 45) = true := c5
                  repeat (first | refine wp_brT rfl ?_ | refine wp_brF rfl ?_)
                  refine wp_done ?_
                  show X.wp _ _ _ _ _ _ _
                  exact wp_done ⟨rfl, congrArg Value.bool (hno (by unfold okCh; rw [d1, d3, d5]; rfl)).symm, rfl⟩
                · have d5 : (byteAt s (j : Int) != 45) = false := c5
                  repeat (first | refine wp_brT rfl ?_ | refine wp_brF rfl ?_)
                  exact wp_done ⟨m - 1, by omega, j + 1, u1, .int .i64 j, .int .u8 (byteAt s j), congrArg (fun z => [Value.int .i64 z, u1, .int .i64 j, .int .u8 (byteAt s j)]) hwj, rfl, by omega, hyes (by unfold okCh; rw [d1, d3, d5]; rfl)⟩
              · have d3 : decide (byteAt s (j : Int) < 48) = false := c3
                repeat (first | refine wp_brT rfl ?_ | refine wp_brF rfl ?_)
                refine wp_br (fun c4 => ?_) (fun c4 => ?_)
                · have d4 : decide (byteAt s (j : Int) > 57) = true := c4
                  repeat (first | refine wp_brT rfl ?_ | refine wp_brF rfl ?_)
                  refine wp_br (fun c5 => ?_) (fun c5 => ?_)
                  · have d5 : (byteAt s (j : Int) != 45) = true := c5
                    repeat (first | refine wp_brT rfl ?_ | refine wp_brF rfl ?_)
                    refine wp_done ?_
                    show X.wp _ _ _ _ _ _ _
                    exact wp_done ⟨rfl, congrArg Value.bool (hno (by unfold okCh; rw [d1, d3, d4, d5]; rfl)).symm, rfl⟩
                  · have d5 : (byteAt s (j : Int) != 45) = false := c5
                    repeat (first | refine wp_brT rfl ?_ | refine wp_brF rfl ?_)
                    exact wp_done ⟨m - 1, by omega, j + 1, u1, .int .i64 j, .int .u8 (byteAt s j), congrArg (fun z => [Value.int .i64 z, u1, .int .i64 j, .int .u8 (byteAt s j)]) hwj, rfl, by omega, hyes (by unfold okCh; rw [d1, d3, d4, d5]; rfl)⟩
                · have d4 : decide (byteAt s (j : Int) > 57) = false := c4
                  repeat (first | refine wp_brT rfl ?_ | refine wp_brF rfl ?_)
                  exact wp_done ⟨m - 1, by omega, j + 1, u1, .int .i64 j, .int .u8 (byteAt s j), congrArg (fun z => [Value.int .i64 z, u1, .int .i64 j, .int .u8 (byteAt s j)]) hwj, rfl, by omega, hyes (by unfold okCh; rw [d1, d3, d4]; rfl)⟩
            · have d1 : decide (byteAt s (j : Int) < 97) = false := c1
              repeat (first | refine wp_brT rfl ?_ | refine wp_brF rfl ?_)
              refine wp_br (fun c2 => ?_) (fun c2 => ?_)
              · have d2 : decide (byteAt s (j : Int) > 122) = true := c2
                repeat (first | refine wp_brT rfl ?_ | refine wp_brF rfl ?_)
                refine wp_br (fun c3 => ?_) (fun c3 => ?_)
                · have d3 : decide (byteAt s (j : Int) < 48) = true := c3
                  repeat (first | refine wp_brT rfl ?_ | refine wp_brF rfl ?_)
                  refine wp_br (fun c5 => ?_) (fun c5 => ?_)
                  · have d5 : (byteAt s (j : Int) != 45) = true := c5
                    repeat (first | refine wp_brT rfl ?_ | refine wp_brF rfl ?_)
                    refine wp_done ?_
                    show X.wp _ _ _ _ _ _ _
                    exact wp_done ⟨rfl, congrArg Value.bool (hno (by unfold okCh; rw [d1, d2, d3, d5]; rfl)).symm, rfl⟩
                  · have d5 : (byteAt s (j : Int) != 45) = false := c5
                    repeat (first | refine wp_brT rfl ?_ | refine wp_brF rfl ?_)
                    exact wp_done ⟨m - 1, by omega, j + 1, u1, .int .i64 j, .int .u8 (byteAt s j), congrArg (fun z => [Value.int .i64 z, u1, .int .i64 j, .int .u8 (byteAt s j)]) hwj, rfl, by omega, hyes (by unfold okCh; rw [d1, d2, d3, d5]; rfl)⟩
                · have d3 : decide (byteAt s (j : Int) < 48) = false := c3
                  repeat (first | refine wp_brT rfl ?_ | refine wp_brF rfl ?_)
                  refine wp_br (fun c4 => ?_) (fun c4 => ?_)
                  · have d4 : decide (byteAt s (j : Int) > 57) = true := c4
                    repeat (first | refine wp_brT rfl ?_ | refine wp_brF rfl ?_)
                    refine wp_br (fun c5 => ?_) (fun c5 => ?_)
                    · have d5 : (byteAt s (j : Int) != 45) = true := c5
                      repeat (first | refine wp_brT rfl ?_ | refine wp_brF rfl ?_)
                      refine wp_done ?_
                      show X.wp _ _ _ _ _ _ _
                      exact wp_done ⟨rfl, congrArg Value.bool (hno (by unfold okCh; rw [d1, d2, d3, d4, d5]; rfl)).symm, rfl⟩
                    · have d5 : (byteAt s (j : Int) != 45) = false := c5
                      repeat (first | refine wp_brT rfl ?_ | refine wp_brF rfl ?_)
                      exact wp_done ⟨m - 1, by omega, j + 1, u1, .int .i64 j, .int .u8 (byteAt s j), congrArg (fun z => [Value.int .i64 z, u1, .int .i64 j, .int .u8 (byteAt s j)]) hwj, rfl, by omega, hyes (by unfold okCh; rw [d1, d2, d3, d4, d5]; rfl)⟩
                  · have d4 : decide (byteAt s (j : Int) > 57) = false := c4
                    repeat (first | refine wp_brT rfl ?_ | refine wp_brF rfl ?_)
                    exact wp_done ⟨m - 1, by omega, j + 1, u1, .int .i64 j, .int .u8 (byteAt s j), congrArg (fun z => [Value.int .i64 z, u1, .int .i64 j, .int .u8 (byteAt s j)]) hwj, rfl, by omega, hyes (by unfold okCh; rw [d1, d2, d3, d4]; rfl)⟩
              · have d2 : decide (byteAt s (j : Int) > 122) = false := c2
                repeat (first | refine wp_brT rfl ?_ | refine wp_brF rfl ?_)
                exact wp_done ⟨m - 1, by omega, j + 1, u1, .int .i64 j, .int .u8 (byteAt s j), congrArg (fun z => [Value.int .i64 z, u1, .int .i64 j, .int .u8 (byteAt s j)]) hwj, rfl, by omega, hyes (by unfold okCh; rw [d1, d2]; rfl)⟩
          · have hj' : ¬ ((j : Int) < (s.size : Int)) := of_decide_eq_false h5
            clear h5
            have hjs : j = s.size := by omega
            have hr : nameB s = true := by rw [hn, ← hjs]; exact hf
            refine wp_done ?_
            show X.wp _ _ _ _ _ _ _
            exact wp_done ⟨rfl, congrArg Value.bool hr.symm, rfl⟩
end Go.Xe
