/- The move merge. -/
import Derived.Test.YtebbgoklldmkiaaGreatQ34
import Derived.Test.YtebbgoklldmkiaaGreatQ36
namespace Go.Xe
open Go Go.Proofs
set_option maxRecDepth 20000
variable {c : World}
theorem SC.pushChg {M M' : List Nat} {sb b : Nat} {h h' : Hp} {p : StP} {σ : StateR} (hb : h.size ≤ b) (x : Chg M' h h') (hm : ∀ m, m ∈ M' → m ∈ M) (hs : sb ∉ M') (hl : b < h'.size) (y : SC M sb h p σ) : SC (b :: M) sb h' p σ :=
  ⟨Bd.cons (y.bd.chg x) hl, List.mem_cons_of_mem _ y.mem, x.of y.blk hs, (y.ok.push hb).chg x (fun m h => List.mem_cons_of_mem _ (hm m h))⟩
theorem sev_mem {bs : List (Int × BaleR)} {all : List Int} : ∀ (l : List Int) (i : Nat) (out L : List BaleR) (e : Int), sevGo bs all i l out = (e, L) → ∀ r, r ∈ L → r ∈ out ∨ ∃ no, no ∈ l ∧ getL eqI no bs = some r ∧ r.state = 0
  | [], i, out, L, e, h, r, hr => by
    unfold sevGo at h
    cases hx : (out.all fun b => kindB b.kind ((out.head?.getD zBaleR).kind)) with
    | true => rw [hx] at h; cases h; exact .inl hr
    | false => rw [hx] at h; cases h; cases hr
  | no :: l, i, out, L, e, h, r, hr => by
    unfold sevGo at h
    dsimp only at h
    split at h
    · cases h; cases hr
    · split at h
      · cases h; cases hr
      · split at h
        · cases h; cases hr
        · rename_i h1 h2 h3
          have h0 : (findF bs no [0]).1 = 0 := by simpa using h3
          obtain ⟨g1, g2⟩ := findF_ok h0
          rcases sev_mem l _ _ _ _ h r hr with hh | ⟨n, h4, h5, h6⟩
          · rcases List.mem_append.1 hh with hh | hh
            · exact .inl hh
            · rw [List.mem_singleton] at hh
              subst hh
              exact .inr ⟨no, List.mem_cons_self .., g1, by simpa using g2⟩
          · exact .inr ⟨n, List.mem_cons_of_mem _ h4, h5, h6⟩
theorem several_eq {bs : List (Int × BaleR)} {all : List Int} : ∀ (l : List Int) (i : Nat) (out L : List BaleR), sevGo bs all i l out = (0, L) → L.length = out.length + l.length
  | [], i, out, L, h => by
    unfold sevGo at h
    cases hx : (out.all fun b => kindB b.kind ((out.head?.getD zBaleR).kind)) with
    | true => rw [hx] at h; cases h; rfl
    | false => rw [hx] at h; cases h
  | no :: l, i, out, L, h => by
    unfold sevGo at h
    dsimp only at h
    split at h
    · cases h
    · split at h
      · cases h
      · split at h
        · rename_i h3
          injection h with h h'
          exact absurd h h3
        · have := several_eq l _ _ _ h
          simp only [List.length_append, List.length_cons, List.length_nil] at this ⊢
          omega
theorem addP_len : ∀ (l : List PartR) (ps : List (Int × Int)), (addP ps l).length ≤ ps.length + l.length
  | [], ps => Nat.le_refl _
  | p :: l, ps => by
    have h1 := addP_len l (insL ltI p.clip (W ((getL eqI p.clip ps).getD 0 + p.grams)) ps)
    have h2 := length_insL (lt := ltI) (k := p.clip) (v := W ((getL eqI p.clip ps).getD 0 + p.grams)) ps
    simp only [addP, List.length_cons]
    omega
theorem addB_len : ∀ (l : List BaleR) (ps : List (Int × Int)), (∀ r, r ∈ l → r.parts.length < 1000) → (addB ps l).length ≤ ps.length + l.length * 1000
  | [], ps, _ => Nat.le_refl _
  | b :: l, ps, h => by
    have h1 := addB_len l (addP ps b.parts) (fun r hr => h r (List.mem_cons_of_mem _ hr))
    have h2 := addP_len b.parts ps
    have h3 := h b (List.mem_cons_self ..)
    simp only [addB, List.length_cons]
    omega
theorem addP_snoc : ∀ (l : List PartR) (p : PartR) (ps : List (Int × Int)), addP ps (l ++ [p]) = insL ltI p.clip (W ((getL eqI p.clip (addP ps l)).getD 0 + p.grams)) (addP ps l)
  | [], _, _ => rfl
  | x :: l, p, ps => by simp only [List.cons_append, addP]; exact addP_snoc l p _
theorem addB_snoc : ∀ (l : List BaleR) (b : BaleR) (ps : List (Int × Int)), addB ps (l ++ [b]) = addP (addB ps l) b.parts
  | [], _, _ => rfl
  | x :: l, b, ps => by simp only [List.cons_append, addB]; exact addB_snoc l b _
theorem sumB_snoc : ∀ (l : List BaleR) (b : BaleR) (g : Int), sumB g (l ++ [b]) = W (sumB g l + b.grams)
  | [], _, _ => rfl
  | x :: l, b, g => by simp only [List.cons_append, sumB]; exact sumB_snoc l b _

/-- The parts of the bales are added up. -/
def partsQ (M : List Nat) (b8 : Nat) (h0 h' : Hp) (ps : List (Int × Int)) : Prop := ∃ q, h'[b8]? = some (.cells #[.pointer q] 240 (0, 0)) ∧ II.Mp M h' q ps ∧ Chg [b8] h0 h'

theorem merge_x (M Mn : List Nat) (sb : Nat) (p : StP) (σ : StateR) (m : MoveR) (a : Option Addr) (cap : Nat) (h : Hp) (y : SC M sb h p σ) (hz : SizeW σ) (hn : IntsAt Mn h a cap m.nos) (hw : ∀ no, no ∈ m.nos → FindW σ no) :
    Call c Tryz.prog 115 #[.pointer (some ⟨sb, 0, none⟩), vMove m a cap] h (StepOk M sb h (mergeF σ m)) := by
  have hspl : mergeF σ m = mergeF σ m := rfl
  conv at hspl => rhs; unfold mergeF
  refine call_ofM layOk 117 Tryz.func115 Tryz.ntmps115 rfl rfl rfl ?_
  refine wp_new ?_
  intro mb h1 hN
  have hc1 := hN.chg []
  refine wp_load (v := .slice a m.nos.length cap) (ld_of hN.here rfl) ?_
  refine wp_br (fun g3 => ?_) (fun g3 => ?_)
  · have d3 : (m.nos.length : Int) > 16 := of_decide_eq_true g3
    rw [if_pos (by omega)] at hspl
    exact wp_done (finM_at [.int .i64 0, .int .i64 3] rfl ⟨rfl, rfl, trivial⟩ ((y.ext hc1).step (hc1.mono (by simp)) hspl))
  · have d3 : ¬ (m.nos.length : Int) > 16 := of_decide_eq_false g3
    rw [if_neg (by omega)] at hspl
    refine wp_load (v := .slice a m.nos.length cap) (ld_of hN.here rfl) ?_
    refine wp_br (fun g4 => ?_) (fun g4 => ?_)
    · have d4 : (m.nos.length : Int) < 2 := of_decide_eq_true g4
      rw [if_pos (by omega)] at hspl
      exact wp_done (finM_at [.int .i64 0, .int .i64 2] rfl ⟨rfl, rfl, trivial⟩ ((y.ext hc1).step (hc1.mono (by simp)) hspl))
    · have d4 : ¬ (m.nos.length : Int) < 2 := of_decide_eq_false g4
      rw [if_neg (by omega)] at hspl
      refine wp_load (v := .slice a m.nos.length cap) (ld_of hN.here rfl) ?_
      refine wp_call (several_x M Mn sb p σ m.nos a cap h1 (y.ext hc1) (hn.ext hc1) (by omega)) ?_
      rintro _ h3 ⟨L, e, aL, capL, blkL, rfl, hsev, hoL, hL, hc3, hfL⟩
      have hsev' : sevGo σ.bales m.nos 0 m.nos [] = (e, L.map (·.1)) := hsev
      have hLlen : L.length ≤ 16 := by
        have := several_len m.nos 0 [] (L.map (·.1)) e hsev'
        rw [List.length_map] at this
        simp at this
        omega
      have hmemL : ∀ x, x ∈ L → x.1.parts.length < 1000 := by
        intro x hx
        rcases sev_mem m.nos 0 [] _ e hsev' x.1 (List.mem_map_of_mem hx) with hh | ⟨no, h4, h5, _⟩
        · cases hh
        · exact Nat.lt_of_lt_of_le (hw no h4 x.1 h5).few (by decide)
      rw [hsev] at hspl
      dsimp only at hspl
      have hc03 := hc1.trans hc3
      have hmb3 := hc3.of hN.here (by simp)
      have y3 := y.ext hc03
      refine wp_br (fun g5 => ?_) (fun g5 => ?_)
      · have d5 : (e != 0) = true := g5
        have d5' : e ≠ 0 := by simpa using d5
        rw [if_pos d5'] at hspl
        exact wp_done (finM_at [.int .i64 0, .int .i64 e] rfl ⟨rfl, rfl, trivial⟩ (y3.step (hc03.mono (by simp)) hspl))
      · have d5 : (e != 0) = false := g5
        have d5' : e = 0 := by simpa using d5
        rw [if_neg (by simpa using d5')] at hspl
        refine wp_new ?_
        intro b8 h4 hN4
        have hc4 := hN4.chg []
        have hc04 := hc03.trans hc4
        have y4 := y3.new hN4
        have hoL4 := hoL.ext hc4
        have hL4 : AllOk (b8 :: M) h4 L := fun x hx => ((hL x hx).push hN4.le).ext hc4
        have hmb4 := hc4.of hmb3 (by simp)
        have hmlt := (Array.getElem?_eq_some_iff.1 hmb3).1
        have hb8m : mb ≠ b8 := by have := hN4.le; omega
        have hb8L : ∀ g, blkL = some g → g ∉ [b8] := fun g hg hm => by have := hoL.lt g hg; have := hN4.le; rw [List.mem_singleton] at hm; omega
        have h8M : ∀ k, k ∈ [b8] → k ∈ b8 :: M := fun k hk => by rw [List.mem_singleton] at hk; simp [hk]
        have hb8h : h.size ≤ b8 := Nat.le_trans hc03.size hN4.le
        refine wp_loopK layOk [43, 9, 11, 13, 14, 15] 44 74 rfl [0, 3, 6, 8, 41, 42] [.pointer (some ⟨sb, 0, none⟩), .pointer (some ⟨mb, 0, none⟩), .slice aL L.length capL, .pointer (some ⟨b8, 0, none⟩), .slice aL L.length capL, .int .i64 L.length] rfl [] rfl
          (fun k vals h' => ∃ (j : Nat) (u11 u13 u14 u15 : Value), vals = [.int .i64 j, .int .i64 (sumB 0 ((L.map (·.1)).take j)), u11, u13, u14, u15] ∧ j + k = L.length ∧ partsQ (b8 :: M) b8 h4 h' (addB [] ((L.map (·.1)).take j))) L.length
          ⟨0, _, _, _, _, rfl, by omega, none, hN4.here, .nil, Chg.refl _ _⟩ ?_
        rintro ρ0 k g vals h5 - ⟨j, u11, u13, u14, u15, rfl, hjk, q5, e5, hm5, hc5⟩
        have hoL5 := hoL4.chg hc5 hb8L
        refine wp_br (fun g6 => ?_) (fun g6 => ?_)
        · have hj' : (j : Int) < (L.length : Int) := of_decide_eq_true g6
          clear g6
          have hj : j < L.length := by omega
          have hje := List.getElem?_eq_getElem hj
          have hmem := List.getElem_mem hj
          generalize L[j] = x at hje hmem
          obtain ⟨r, q⟩ := x
          have hjm : (L.map (·.1))[j]? = some r := by rw [List.getElem?_map, hje]; rfl
          have htk : (L.map (·.1)).take (j + 1) = (L.map (·.1)).take j ++ [r] := by rw [List.take_add_one, hjm]; rfl
          have hlen1 : (addB [] ((L.map (·.1)).take j)).length ≤ 16 * 1000 := by
            have h1 := addB_len ((L.map (·.1)).take j) [] (fun r hr => by
              obtain ⟨x, hx, rfl⟩ := List.mem_map.1 (List.mem_of_mem_take hr)
              exact hmemL x hx)
            rw [List.length_take, List.length_map] at h1
            simp only [List.length_nil, Nat.zero_add] at h1
            refine Nat.le_trans h1 (Nat.mul_le_mul_right _ ?_)
            omega
          have hsum : sumB 0 ((L.map (·.1)).take (j + 1)) = W (sumB 0 ((L.map (·.1)).take j) + r.grams) := by rw [htk]; exact sumB_snoc _ _ _
          have hadd : addB [] ((L.map (·.1)).take (j + 1)) = addP (addB [] ((L.map (·.1)).take j)) r.parts := by rw [htk]; exact addB_snoc _ _ _
          have hpl : r.parts.length < 1000 := hmemL _ hmem
          have hq5 : BalOk (b8 :: M) h5 r q := (hL4 _ hmem).chg hc5 h8M
          generalize addB [] ((L.map (·.1)).take j) = ps at hlen1 hm5 hadd
          generalize sumB 0 ((L.map (·.1)).take j) = gs at hsum ⊢
          obtain ⟨b, rfl, rfl⟩ := hoL5.ptr (i := ti42) hj
          refine wp_chk ⟨by omega, by omega⟩ ?_
          refine wp_load (hoL5.ld1 (i := ti42) enBale hje) ?_
          refine wp_new ?_
          intro bx h6 hN6
          refine wp_store hN6.here (by rfl) ?_
          intro h7 hU7
          have hc57 : Chg [] h5 h7 := hU7.chgGe (hN6.chg []) hN6.le
          refine wp_load (v := .int .i64 r.grams) (ld_of hU7.here rfl) ?_
          refine wp_load (v := .slice q.pa r.parts.length q.pc) (ld_of hU7.here rfl) ?_
          have hq7 : BalOk (b8 :: M) h7 r q := hq5.ext hc57
          have e7 := hc57.of e5 (by simp)
          have hM7 : Bd (b8 :: M) h7 := (y4.bd.chg hc5).chg hc57
          have hbx8 : bx ∉ [b8] := fun hm => by
            have h1 := List.mem_singleton.1 hm
            have h2 := hN6.le
            have h3 := (Array.getElem?_eq_some_iff.1 e5).1
            omega
          refine wp_loopK layOk [54, 13, 14, 15] 55 73 rfl [0, 3, 6, 8, 41, 42, 43, 9, 11, 52, 53] [.pointer (some ⟨sb, 0, none⟩), .pointer (some ⟨mb, 0, none⟩), .slice (some ⟨b, 0, none⟩) L.length capL, .pointer (some ⟨b8, 0, none⟩), .slice (some ⟨b, 0, none⟩) L.length capL, .int .i64 L.length, .int .i64 j, .int .i64 (W (gs + r.grams)), .pointer (some ⟨bx, 0, none⟩), .slice q.pa r.parts.length q.pc, .int .i64 r.parts.length] rfl [] rfl
            (fun k vals h' => ∃ (i : Nat) (v13 v14 v15 : Value), vals = [.int .i64 i, v13, v14, v15] ∧ i + k = r.parts.length ∧ partsQ (b8 :: M) b8 h7 h' (addP ps (r.parts.take i))) r.parts.length
            ⟨0, _, _, _, rfl, by omega, q5, e7, hm5.ext hc57, Chg.refl _ _⟩ ?_
          rintro ρ1 k1 g1 vals h8 - ⟨i, v13, v14, v15, rfl, hik, q8, e8, hm8, hc8⟩
          have hq8 : BalOk (b8 :: M) h8 r q := hq7.chg hc8 h8M
          refine wp_br (fun g7 => ?_) (fun g7 => ?_)
          · have hi' : (i : Int) < (r.parts.length : Int) := of_decide_eq_true g7
            clear g7
            have hi : i < r.parts.length := by omega
            have hie := List.getElem?_eq_getElem hi
            have htki : r.parts.take (i + 1) = r.parts.take i ++ [r.parts[i]] := by rw [List.take_add_one, hie]; rfl
            have hadi : addP ps (r.parts.take (i + 1)) = insL ltI r.parts[i].clip (W ((getL eqI r.parts[i].clip (addP ps (r.parts.take i))).getD 0 + r.parts[i].grams)) (addP ps (r.parts.take i)) := by rw [htki]; exact addP_snoc _ _ _
            have hlen2 : (addP ps (r.parts.take i)).length < 900000 := by
              have := addP_len (r.parts.take i) ps
              rw [List.length_take] at this
              omega
            generalize r.parts[i] = pt at hie hadi
            generalize addP ps (r.parts.take i) = pi at hadi hlen2 hm8
            have hgv : ∃ bo, II.getV pt.clip pi = .tuple #[.int .i64 ((getL eqI pt.clip pi).getD 0), .bool bo] := by
              unfold II.getV
              cases getL eqI pt.clip pi with
              | none => exact ⟨false, rfl⟩
              | some t => exact ⟨true, rfl⟩
            obtain ⟨bo, hgv⟩ := hgv
            have hpa8 := hq8.1
            obtain ⟨bq, oq, hqa⟩ := hpa8.ptr (i := ti129) hi
            rw [hqa] at hpa8 ⊢
            refine wp_chk ⟨by omega, by omega⟩ ?_
            refine wp_load (hpa8.ld1 (i := ti129) enPart hie) ?_
            refine wp_new ?_
            intro by_ h9 hN9
            refine wp_store hN9.here (by rfl) ?_
            intro h10 hU10
            have hc810 : Chg [] h8 h10 := hU10.chgGe (hN9.chg []) hN9.le
            have e10 := hc810.of e8 (by simp)
            have hget := II.get_c (c := c) (b8 :: M) pi pt.clip q8 h10 (hm8.ext hc810)
            rw [hgv] at hget
            refine wp_load (ld_of e10 rfl) ?_
            refine wp_load (v := .int .i64 pt.clip) (ld_of hU10.here rfl) ?_
            refine wp_call hget ?_
            rintro _ h11 ⟨rfl, hc11⟩
            have hU11 := hc11.of hU10.here (by simp)
            have e11 := hc11.of e10 (by simp)
            have hc811 := hc810.trans hc11
            refine wp_load (ld_of e11 rfl) ?_
            refine wp_load (v := .int .i64 pt.clip) (ld_of hU11 rfl) ?_
            refine wp_load (v := .int .i64 pt.grams) (ld_of hU11 rfl) ?_
            refine wp_call (II.mput_c (b8 :: M) pi pt.clip (W ((getL eqI pt.clip pi).getD 0 + pt.grams)) q8 h11 ((hM7.chg hc8).chg hc811) (hm8.ext hc811) hlen2) ?_
            rintro _ h12 ⟨q12, rfl, hc12, hm12⟩
            rw [← hadi] at hm12
            refine wp_store (hc12.of e11 (by simp)) (by rfl) ?_
            intro h13 hU13
            have hx13 : Chg [b8] h12 h13 := hU13.chg (by simp)
            refine wp_done ⟨k1 - 1, by omega, i + 1, .pointer (some ⟨by_, 0, none⟩), .int .i64 ((getL eqI pt.clip pi).getD 0), .bool bo, ?_, by omega, q12, hU13.here, hm12.chg hx13 h8M, (hc8.trans ((hc811.trans hc12).mono (by simp))).trans hx13⟩
            exact congrArg (fun z => [Value.int .i64 z, .pointer (some ⟨by_, 0, none⟩), .int .i64 ((getL eqI pt.clip pi).getD 0), .bool bo]) (by rw [w64 (by omega) (by omega)]; omega)
          · have hi' : ¬ ((i : Int) < (r.parts.length : Int)) := of_decide_eq_false g7
            clear g7
            rw [List.take_of_length_le (by omega), ← hadd] at hm8
            refine wp_done ?_
            show X.wp _ _ _ _ _ _ _
            refine wp_done ⟨k - 1, by omega, j + 1, .pointer (some ⟨bx, 0, none⟩), v13, v14, v15, ?_, by omega, q8, e8, hm8, (hc5.trans (hc57.mono (by simp))).trans hc8⟩
            refine congr (congrArg (fun z z' => [Value.int .i64 z, .int .i64 z', .pointer (some ⟨bx, 0, none⟩), v13, v14, v15]) (by rw [w64 (by omega) (by omega)]; omega)) hsum.symm
        · have hj' : ¬ ((j : Int) < (L.length : Int)) := of_decide_eq_false g6
          clear g6
          rw [List.take_of_length_le (by rw [List.length_map]; omega)] at hm5
          have hsum : sumB 0 ((L.map (·.1)).take j) = sumB 0 (L.map (·.1)) := by rw [List.take_of_length_le (by rw [List.length_map]; omega)]
          generalize sumB 0 ((L.map (·.1)).take j) = gs at hsum ⊢
          subst hsum
          refine wp_done ?_
          show X.wp _ _ _ _ _ _ _
          have hoL5' := hoL5
          have hs8 : sb ∉ [b8] := fun hm => y3.ne hN4.le (List.mem_singleton.1 hm)
          have y5 := y4.chg hc5 h8M hs8
          have hc05 : Chg [] h h5 := hc04.fresh hc5 (fun k hk => .inr (by rw [List.mem_singleton] at hk; rw [hk]; exact hb8h))
          have yM5 : SC M sb h5 p σ := y5.sub (fun k hk => List.mem_cons_of_mem _ hk) y.mem
          have hL5 : AllOk (b8 :: M) h5 L := fun x hx => (hL4 x hx).chg hc5 h8M
          have hmb5 := hc5.of hmb4 (by simpa using hb8m)
          have hkind : L ≠ [] → ((L.map (·.1)).head?.getD zBaleR) = (L.head?.getD (zBaleR, zBalP)).1 := fun h => by
            cases L with
            | nil => exact absurd rfl h
            | cons _ _ => rfl
          have hps0 : (addB [] (L.map (·.1))).length ≤ 16 * 1000 := by
            have h1 := addB_len (L.map (·.1)) [] (fun r hr => by
              obtain ⟨x, hx, rfl⟩ := List.mem_map.1 hr
              exact hmemL x hx)
            rw [List.length_map] at h1
            simp only [List.length_nil, Nat.zero_add] at h1
            exact Nat.le_trans h1 (Nat.mul_le_mul_right _ hLlen)
          generalize addB [] (L.map (·.1)) = ps at hspl hm5 hps0
          generalize sumB 0 (L.map (·.1)) = gs at hspl ⊢
          refine wp_br (fun g7 => ?_) (fun g7 => ?_)
          · have d7 : gs > 1073741824 := of_decide_eq_true g7
            rw [if_pos d7] at hspl
            exact wp_done (finM_at [.int .i64 0, .int .i64 4] rfl ⟨rfl, rfl, trivial⟩ (yM5.step (hc05.mono (by simp)) hspl))
          · have d7 : ¬ gs > 1073741824 := of_decide_eq_false g7
            rw [if_neg d7] at hspl
            refine wp_call (full_x yM5) ?_
            rintro _ h6 ⟨rfl, hc6⟩
            have hc06 := hc05.trans hc6
            refine wp_br (fun g8 => ?_) (fun g8 => ?_)
            · have d8 : 512 ≤ σ.bales.length := of_decide_eq_true g8
              rw [if_pos d8] at hspl
              exact wp_done (finM_at [.int .i64 0, .int .i64 9] rfl ⟨rfl, rfl, trivial⟩ ((yM5.ext hc6).step (hc06.mono (by simp)) hspl))
            · have d8 : ¬ 512 ≤ σ.bales.length := of_decide_eq_false g8
              rw [if_neg d8] at hspl
              have y6 := y5.ext hc6
              have hmb6 := hc6.of hmb5 (by simp)
              have e6 := hc6.of e5 (by simp)
              have hm6 := hm5.ext hc6
              have hoL6 := hoL5'.ext hc6
              have hL6 : AllOk (b8 :: M) h6 L := hL5.ext hc6
              have hsbM : sb ∈ b8 :: M := y5.mem
              have hsm : ∀ k, k ∈ [sb] → k ∈ b8 :: M := fun k hk => by rw [List.mem_singleton] at hk; rw [hk]; exact hsbM
              have hmbs : mb ∉ [sb] := y.nin hN.le
              have h8s : b8 ∉ [sb] := y.nin hb8h
              have hLs : ∀ g, blkL = some g → g ∉ [sb] := fun g hg => y.nin (Nat.le_trans hc1.size (hfL g hg))
              refine wp_loopK layOk [83, 17] 84 91 rfl [0, 3, 6, 8, 9, 81, 82] [.pointer (some ⟨sb, 0, none⟩), .pointer (some ⟨mb, 0, none⟩), .slice aL L.length capL, .pointer (some ⟨b8, 0, none⟩), .int .i64 gs, .slice aL L.length capL, .int .i64 L.length] rfl [] rfl
                (fun k vals h' => ∃ (j : Nat) (u : Value), vals = [.int .i64 j, u] ∧ j + k = L.length ∧ Chg [sb] h6 h' ∧ ∃ p', SC (b8 :: M) sb h' p' (keepAll (fun b => { b with state := 3 }) ((L.map (·.1)).take j) σ)) L.length ⟨0, _, rfl, by omega, Chg.refl _ _, p, y6⟩ ?_
              rintro ρ1 k1 g1 vals h7 - ⟨j1, u1, rfl, hjk1, hc7, p7, y7⟩
              have hoL7 := hoL6.chg hc7 hLs
              have hL7 : AllOk (b8 :: M) h7 L := fun x hx => (hL6 x hx).chg hc7 hsm
              refine wp_br (fun g9 => ?_) (fun g9 => ?_)
              · have hj' : (j1 : Int) < (L.length : Int) := of_decide_eq_true g9
                clear g9
                have hj : j1 < L.length := by omega
                have hje := List.getElem?_eq_getElem hj
                have hmem := List.getElem_mem hj
                generalize L[j1] = x at hje hmem
                obtain ⟨r, q⟩ := x
                have hjm : (L.map (·.1))[j1]? = some r := by rw [List.getElem?_map, hje]; rfl
                have hq7 : BalOk (b8 :: M) h7 r q := hL7 _ hmem
                obtain ⟨b, rfl, rfl⟩ := hoL7.ptr (i := ti42) hj
                refine wp_chk ⟨by omega, by omega⟩ ?_
                refine wp_load (hoL7.ld1 (i := ti42) enBale hje) ?_
                refine wp_new ?_
                intro bx h8 hN8
                refine wp_store hN8.here (by rfl) ?_
                intro h9 hU9
                have hc79 : Chg [] h7 h9 := hU9.chgGe (hN8.chg []) hN8.le
                have y9 := (y7.new hN8).upd hU9 (by simp) (y7.ne hN8.le)
                have hq9 : BalOk (bx :: b8 :: M) h9 r q := (hq7.push hN8.le).ext hc79
                refine wp_store hU9.here (by rfl) ?_
                intro h10 hU10
                have hx10 : Chg [bx] h9 h10 := hU10.chg (by simp)
                have y10 := y9.upd hU10 (by simp) (y7.ne hN8.le)
                have hll := keepAll_len (fun b => { b with state := 3 }) ((L.map (·.1)).take j1) σ
                rw [List.length_take, List.length_map] at hll
                refine wp_load (v := vBale { r with state := 3 } q) (ld_of hU10.here rfl) ?_
                refine wp_call (keep_x { r with state := 3 } q y10 ((hq9.chg hx10 (by simp)).fields _ rfl rfl) (by have := hz.bales; omega)) ?_
                rintro _ h11 ⟨p11, y11, hc11⟩
                rw [← keepAll_take (fun b => { b with state := 3 }) (L.map (·.1)) j1 r hjm] at y11
                have hcc : Chg [sb] h6 h11 := ((hc7.trans (hc79.mono (by simp))).fresh hx10 (fun k hk => .inr (by rw [List.mem_singleton] at hk; rw [hk]; exact Nat.le_trans hc7.size hN8.le))).trans hc11
                refine wp_done ⟨k1 - 1, by omega, j1 + 1, .pointer (some ⟨bx, 0, none⟩), ?_, by omega, hcc, p11, y11.sub (fun k hk => List.mem_cons_of_mem _ hk) hsbM⟩
                exact congrArg (fun z => [Value.int .i64 z, .pointer (some ⟨bx, 0, none⟩)]) (by rw [w64 (by omega) (by omega)]; omega)
              · have hj' : ¬ ((j1 : Int) < (L.length : Int)) := of_decide_eq_false g9
                clear g9
                rw [List.take_of_length_le (by rw [List.length_map]; omega)] at y7
                have hzk := keepAll_len (fun b => { b with state := 3 }) (L.map (·.1)) σ
                rw [List.length_map] at hzk
                have hz1 := hz.bales
                generalize keepAll (fun b => { b with state := 3 }) (L.map (·.1)) σ = σ1 at hspl y7 hzk
                have hc06s : Chg [sb] h h7 := (hc06.mono (by simp)).trans hc7
                have hmb7 := hc7.of hmb6 hmbs
                have e7 := hc7.of e6 h8s
                have hm7 := hm6.chg hc7 hsm
                have hn7 : IntsAt [] h7 a cap m.nos := ((hn.ext hc06).offTy hc7 y6.blk (by decide)).sub (by simp)
                refine wp_done ?_
                show X.wp _ _ _ _ _ _ _
                have hLpos : 0 < L.length := by
                  have h1 := several_eq m.nos 0 [] (L.map (·.1)) (by rw [← d5']; exact hsev')
                  rw [List.length_map] at h1
                  simp at h1
                  omega
                have h0e := List.getElem?_eq_getElem hLpos
                have hkd : ((L.map (·.1)).head?.getD zBaleR) = L[0].1 := by
                  cases L with
                  | nil => simp at hLpos
                  | cons _ _ => rfl
                rw [hkd] at hspl
                generalize L[0] = x0 at h0e hspl
                obtain ⟨r0, q0⟩ := x0
                dsimp only at hspl
                obtain ⟨bL, rfl, rfl⟩ := hoL7.ptr (i := ti42) hLpos
                refine wp_drawG layOk mixed [] (fun o => freesO (rs [(0, 6)]) (.alt 7 (.alt 8 (seqO o (rs [(9, 11)])) (.alt 10 (seqO o (rs [(8, 9), (11, 11)])) (.non))) (.alt 10 (seqO o (rs [(7, 9), (11, 11)])) (.non)))) [7, 8, 10] (by kernel_rfl) [0, 8, 18] [] rfl
                  (fun vals h' => ∃ b18 af cf blkf, vals = [.pointer (some ⟨sb, 0, none⟩), .pointer (some ⟨b8, 0, none⟩), .pointer (some ⟨b18, 0, none⟩)] ∧ h'[b18]? = some (.cells (elBale ⟨0, r0.kind, gs, [], 0, ⟨#[]⟩, sortI m.nos⟩ ⟨none, 0, af, cf⟩).toArray 42 (0, 0)) ∧
                    IntsOwn h' af cf (sortI m.nos) blkf ∧ Chg [] h7 h' ∧ Fresh h7 blkf ∧ h7.size ≤ b18) ?_ ?_
                · refine wp_chk ⟨by omega, by omega⟩ ?_
                  refine wp_load (v := vKind r0.kind) ((hoL7.sl (M := []) (by simp)).ldA (i := ti42) enBale (tf := ti39) rfl (by decide) h0e (k := 1) (by decide)) ?_
                  refine wp_load (v := .slice a m.nos.length cap) (ld_of hmb7 rfl) ?_
                  refine wp_both ?_ ?_
                  · refine wp_callE (values_c m.nos a cap h7) ?_
                    rintro _ h8 ⟨bv, rfl, hN8⟩
                    refine ⟨hN8.chg _, ?_⟩
                    refine wp_both ?_ ?_
                    · refine wp_callE (sorted_c [] m.nos a cap bv (by omega) h8 (hn7.ext (hN8.chg [])) hN8.here) ?_
                      rintro _ h9 ⟨a9, cap9, blk9, rfl, ho9, hc9, hf9⟩
                      refine ⟨hc9, ?_⟩
                      refine wp_new ?_
                      intro b18 h10 hN10
                      refine wp_store hN10.here (by rfl) ?_
                      intro h11 hU11
                      have hc1 : Chg [] h7 h9 := (hN8.chg []).trans hc9
                      have hc2 : Chg [] h7 h11 := hU11.chgGe (hc1.trans (hN10.chg [])) (Nat.le_trans hc1.size hN10.le)
                      refine wp_done ⟨b18, a9, cap9, blk9, rfl, ?_, (ho9.ext (hN10.chg [])).wr hU11 (fun g hg => by have := ho9.lt g hg; have := hN10.le; omega), hc2, hf9.back (hN8.chg []).size, Nat.le_trans hc1.size hN10.le⟩
                      rw [hU11.here]
                      unfold elBale
                      rw [sortI_len]
                      rfl
                    · refine wp_new ?_
                      intro b18 h10 hN10
                      refine wp_callE (sorted_c [] m.nos a cap bv (by omega) h10 ((hn7.ext (hN8.chg [])).ext (hN10.chg [])) (hN10.of hN8.here)) ?_
                      rintro _ h9 ⟨a9, cap9, blk9, rfl, ho9, hc9, hf9⟩
                      refine ⟨hc9, ?_⟩
                      refine wp_store (hc9.of hN10.here (by simp)) (by rfl) ?_
                      intro h11 hU11
                      have hc1 : Chg [] h7 h9 := ((hN8.chg []).trans (hN10.chg [])).trans hc9
                      have hle : h7.size ≤ b18 := Nat.le_trans (hN8.chg []).size hN10.le
                      have hc2 : Chg [] h7 h11 := hU11.chgGe hc1 hle
                      have hs10 := hN10.size
                      refine wp_done ⟨b18, a9, cap9, blk9, rfl, ?_, ho9.wr hU11 (fun g hg => by have := hf9 g hg; omega), hc2, hf9.back ((hN8.chg []).trans (hN10.chg [])).size, hle⟩
                      rw [hU11.here]
                      unfold elBale
                      rw [sortI_len]
                      rfl
                  · refine wp_new ?_
                    intro b18 h10 hN10
                    refine wp_callE (values_c m.nos a cap h10) ?_
                    rintro _ h8 ⟨bv, rfl, hN8⟩
                    refine ⟨hN8.chg _, ?_⟩
                    refine wp_callE (sorted_c [] m.nos a cap bv (by omega) h8 ((hn7.ext (hN10.chg [])).ext (hN8.chg [])) hN8.here) ?_
                    rintro _ h9 ⟨a9, cap9, blk9, rfl, ho9, hc9, hf9⟩
                    refine ⟨hc9, ?_⟩
                    refine wp_store (hc9.of (hN8.of hN10.here) (by simp)) (by rfl) ?_
                    intro h11 hU11
                    have hc1 : Chg [] h7 h9 := ((hN10.chg []).trans (hN8.chg [])).trans hc9
                    have hc2 : Chg [] h7 h11 := hU11.chgGe hc1 hN10.le
                    have hs10 := hN10.size
                    have hs8 := hN8.size
                    have hl8 := hN8.le
                    refine wp_done ⟨b18, a9, cap9, blk9, rfl, ?_, ho9.wr hU11 (fun g hg => by have := hf9 g hg; omega), hc2, hf9.back ((hN10.chg []).trans (hN8.chg [])).size, hN10.le⟩
                    rw [hU11.here]
                    unfold elBale
                    rw [sortI_len]
                    rfl
                · rintro ρ2 _ h8 ⟨b18, af, cf, blkf, rfl, e18, hof, hc8, hff, hle18⟩
                  have y8 := y7.ext hc8
                  have e8 := hc8.of e7 (by simp)
                  have hm8 := hm7.ext hc8
                  refine wp_load (ld_of e8 rfl) ?_
                  refine wp_call (II.all_c q5 h8) ?_
                  rintro _ h9 ⟨bA, rfl, hN9⟩
                  have hc79 : Chg [] h7 h9 := hc8.trans (hN9.chg [])
                  have hb18lt : b18 < h9.size := by have := (Array.getElem?_eq_some_iff.1 e18).1; have := hN9.size; have := hN9.le; omega
                  have y9 : SC (b18 :: b8 :: M) sb h9 p7 σ1 := y7.push hle18 hc79 hb18lt
                  have e189 := hN9.of e18
                  have hof9 := hof.ext (hN9.chg [])
                  have hA18 : bA ∉ b18 :: b8 :: M := fun hm => by
                    rcases List.mem_cons.1 hm with hm | hm
                    · have := (Array.getElem?_eq_some_iff.1 e18).1
                      have := hN9.le
                      omega
                    · exact y8.notM hN9.le hm
                  have hm9 : II.Mp (b18 :: b8 :: M) h9 q5 ps := (hm7.push hle18).ext hc79
                  have hx18 : ∀ k, k ∈ [b18] → k ∈ b18 :: b8 :: M := fun k hk => by rw [List.mem_singleton] at hk; simp [hk]
                  have hfb : ∀ g, blkf = some g → g ≠ b18 := by
                    intro g hg e
                    rcases hof with ⟨_, _, _, r⟩ | ⟨g', cs, _, r, r2, _⟩
                    · rw [r] at hg; cases hg
                    · rw [r] at hg
                      cases hg
                      rw [e, e18] at r2
                      injection r2 with r2
                      injection r2 with _ r3 _
                      cases r3
                  obtain ⟨P, hP⟩ : ∃ P : List PartR, P = ps.map fun x => ⟨x.1, x.2⟩ := ⟨_, rfl⟩
                  have hPl : P.length = ps.length := by rw [hP, List.length_map]
                  have hPi : ∀ (i : Nat) (x : List Value), (ps.map II.pr)[i]? = some x → ∃ pt : PartR, P[i]? = some pt ∧ x = [Value.int .i64 pt.clip, Value.int .i64 pt.grams] := by
                    intro i x hx
                    rw [List.getElem?_map] at hx
                    cases hp : ps[i]? with
                    | none => rw [hp] at hx; cases hx
                    | some z =>
                      rw [hp] at hx
                      cases hx
                      exact ⟨⟨z.1, z.2⟩, by rw [hP, List.getElem?_map, hp]; rfl, rfl⟩
                  have hps : ps.length < 800000 := by omega
                  rw [← hP] at hspl
                  refine wp_rangeF (gf := 215) (cap := #[.pointer (some ⟨bA, 0, none⟩)]) layOk rfl rfl (ps.map II.pr) (fun x hx => by
                      obtain ⟨v, _, rfl⟩ := List.mem_map.1 hx
                      rfl)
                    (fun i h' => ∃ a3 cap3 blk3, h'[b18]? = some (.cells (elBale ⟨0, r0.kind, gs, P.take i, 0, ⟨#[]⟩, sortI m.nos⟩ ⟨a3, cap3, af, cf⟩).toArray 42 (0, 0)) ∧ PartsOwn h' a3 cap3 (P.take i) blk3 ∧ Chg [b18] h9 h' ∧ h9.size + 2 ≤ h'.size ∧ ∀ g, blk3 = some g → h9.size + 2 ≤ g) ?_ ?_ ?_ ?_ ?_
                  · rintro i ha hb o ⟨a3, cap3, blk3, e1, e2, e3, e5, e6⟩ hU
                    exact ⟨a3, cap3, blk3, hU.of e1 (by omega), e2.wr hU (fun g hg => by have := e6 g hg; omega), ⟨by rw [hU.size]; exact e3.size, fun k hk hm => (hU.other k (by omega)).trans (e3.same k hk hm)⟩, by rw [hU.size]; exact e5, e6⟩
                  · intro h10 hc10 hs10
                    exact ⟨none, 0, none, hc10.of e189 (by simp), OwnAt.nil, hc10.mono (by simp), by omega, fun g hg => by cases hg⟩
                  · intro J h10 hc10 hJI hyl hJ0
                    refine II.it_c (b18 :: b8 :: M) h9 ps q5 bA hm9 hN9.here hA18 (h10.size - 1) J (fun i h' hj => ?_) h10 hJ0 hyl
                    obtain ⟨a3, cap3, blk3, e1, e2, e3, e5, e6⟩ := hJI i h' hj
                    exact e3.mono hx18
                  · rintro i x h10 d hx ⟨a3, cap3, blk3, e1, e2, e3, e5, e6⟩ hld hdf
                    obtain ⟨pt, hpt, rfl⟩ := hPi i x hx
                    have hi := (List.getElem?_eq_some_iff.1 hpt).1
                    have htk : P.take (i + 1) = P.take i ++ [pt] := by rw [List.take_add_one, hpt]; rfl
                    refine wp_done ⟨rfl, rfl, rfl, fun h11 d' hU => ?_⟩
                    have hs11 : h11.size = h10.size := hU.size
                    refine wp_load (v := .slice a3 (P.take i).length cap3) (ld_of (hU.of e1 (by omega)) rfl) ?_
                    refine wp_new ?_
                    intro b4 h12 hN12
                    have ho12 := (e2.wr hU (fun g hg => by have := e6 g hg; omega)).ext (hN12.chg [])
                    refine wp_append layOk (t := 40) rfl rfl rfl (i := ti129) enPart rfl rfl rfl ho12 (M := []) (l' := [pt]) (.inr ⟨b4, 0, _, rfl, by simp, hN12.here, Nat.le_refl _, Nat.le_refl _, rfl⟩) (by rw [List.length_take]; simp; omega) (by simp) ?_
                    intro h13 a5 cap5 blk5 ho5 hc5 hb5
                    rw [← htk] at ho5 ⊢
                    have hs12 : h12.size = h11.size + 1 := by rw [hN12.heap]; simp
                    have hb3n : b18 ∉ blk3.toList := fun hm => by
                      have : blk3 = some b18 := by simpa using hm
                      have := e6 _ this
                      omega
                    have e13 := hc5.of (hN12.of (hU.of e1 (by omega))) hb3n
                    have hdn : ∀ k, k = h9.size ∨ k = h9.size + 1 → k ∉ blk3.toList := fun k hk hm => by
                      have : blk3 = some k := by simpa using hm
                      have := e6 k this
                      omega
                    have hblk : ∀ g, blk5 = some g → h9.size + 2 ≤ g := by
                      intro g hg
                      rcases hb5 with rfl | ⟨g', rfl, hg'⟩
                      · exact e6 g hg
                      · cases hg
                        omega
                    have hc912 : Chg [b18] h9 h12 := Chg.trans ⟨by rw [hs11]; exact e3.size, fun k hk hm => (hU.other k (by omega)).trans (e3.same k hk hm)⟩ (hN12.chg _)
                    have hc913 : Chg [b18] h9 h13 := hc912.fresh hc5 fun k hk => .inr (by have := e6 k (by simpa using hk); omega)
                    refine wp_store e13 (by rfl) ?_
                    intro h14 hU14
                    have hst : ∀ k o, k = h9.size ∨ k = h9.size + 1 → h11[k]? = some o → h14[k]? = some o := fun k o hk hx =>
                      hU14.of (hc5.of (hN12.of hx) (hdn k hk)) (by omega)
                    refine wp_done ⟨rfl, ⟨a5, cap5, blk5, hU14.here, ho5.wr hU14 (fun g hg => by have := hblk g hg; omega), hc913.trans (hU14.chg (by simp)), ?_, hblk⟩, ?_, ?_⟩
                    · rw [hU14.size]
                      have := hc5.size
                      omega
                    · have : h11[h9.size + 1]? = some (.loop d') := hU.here
                      rw [this]
                      exact hst _ _ (.inr rfl) this
                    · exact hst _ _ (.inl rfl) (hU.of hdf (by omega))
                  · rintro h10 ⟨a3, cap3, blk3, e1, e2, e3, e5, e6⟩ hdf
                    rw [List.length_map, ← hPl, List.take_length] at e1 e2
                    have y10 : SC (h9.size :: b18 :: b8 :: M) sb h10 p7 σ1 := y9.pushChg (Nat.le_refl _) e3 hx18 (fun hm => y7.ne hle18 (List.mem_singleton.1 hm)) (by omega)
                    have hDs : h9.size ∉ [sb] := y9.nin (Nat.le_refl _)
                    have hb3 : ∀ g, blk3 = some g → g ∉ h9.size :: b18 :: b8 :: M := fun g hg hm => by
                      have h1 := e6 g hg
                      rcases List.mem_cons.1 hm with hm | hm
                      · omega
                      · have := y9.bd g hm
                        omega
                    have hqf : IntsAt (h9.size :: b18 :: b8 :: M) h10 af cf (sortI m.nos) := by
                      refine (hof9.chg e3 (fun g hg hm => hfb g hg (List.mem_singleton.1 hm))).sl (fun g hg hm => ?_)
                      rcases List.mem_cons.1 hm with hm | hm
                      · have := hof9.lt g hg
                        omega
                      · rcases List.mem_cons.1 hm with hm | hm
                        · exact hfb g hg hm
                        · exact y7.notM (hff g hg) hm
                    refine wp_load (v := vBale ⟨0, r0.kind, gs, P, 0, ⟨#[]⟩, sortI m.nos⟩ ⟨a3, cap3, af, cf⟩) (ld_of e1 rfl) ?_
                    refine wp_call (made_x ⟨0, r0.kind, gs, P, 0, ⟨#[]⟩, sortI m.nos⟩ ⟨a3, cap3, af, cf⟩ y10 ⟨e2.sl hb3, hqf⟩ (by omega)) ?_
                    rintro _ h11 ⟨rfl, p11, y11, hc11⟩
                    have hcc : Chg [sb] h h11 := ((hc06s.trans (hc79.mono (by simp))).fresh e3 (fun k hk => .inr (by rw [List.mem_singleton] at hk; rw [hk]; exact Nat.le_trans hc06s.size hle18))).trans hc11
                    refine wp_done (finM_mark h9.size rfl (hc11.of hdf hDs) fun h12 hU12 => ?_)
                    refine ⟨[.int .i64 (σ1.bales.length + 1), .int .i64 0], ⟨rfl, rfl, trivial⟩, ?_⟩
                    have y12 := (y11.upd hU12 (by simp) (fun e => hDs (by simp [e]))).sub (fun k hk => List.mem_cons_of_mem _ (List.mem_cons_of_mem _ (List.mem_cons_of_mem _ hk))) y.mem
                    exact y12.step (hU12.chgGe hcc (Nat.le_trans hc06s.size hc79.size)) hspl
end Go.Xe
