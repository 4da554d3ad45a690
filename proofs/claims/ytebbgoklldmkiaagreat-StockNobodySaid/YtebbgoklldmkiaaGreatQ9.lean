/- Lemmas on the way: The move merge. Go's own maps, keyed by whole numbers. changes, plain. A store in memory. -/
import Derived.MapKept
import Derived.Test.YtebbgoklldmkiaaGreatQ8
import Derived.Test.YtebbgoklldmkiaaGreatQ7
import Derived.Test.YtebbgoklldmkiaaGreatQ5
namespace Go.Xe
open Go Go.Proofs
set_option maxRecDepth 20000
variable {c : World}
theorem SC.pushChg {M M' : List Nat} {sb b : Nat} {h h' : Hp} {p : StP} {σ : StateR} (hb : h.size ≤ b) (x : Chg M' h h') (hm : ∀ m, m ∈ M' → m ∈ M) (hs : sb ∉ M') (hl : b < h'.size) (y : SC M sb h p σ) : SC (b :: M) sb h' p σ :=
  ⟨Bd.cons (y.bd.chg x) hl, List.mem_cons_of_mem _ y.mem, x.of y.blk hs, (y.ok.push hb).chg x (fun m h => List.mem_cons_of_mem _ (hm m h))⟩
theorem sev_mem {bs : List (Int × BaleR)} {all : List Int} : ∀ (l : List Int) (i : Nat) (out L : List BaleR) (e : Int), sevGo bs all i l out = (e, L) → ∀ r, r ∈ L → r ∈ out ∨ ∃ no, no ∈ l ∧ getL eqI no bs = some r ∧ r.state = 0
  | [], i, out, L, e, h, r, hr => by
    unfold sevGo at h
    cases hx : (out.all fun b => kindB b.kind ((out.head?.getD zBaleR).kind)) with
    | true => rw [hx] at h; cases h; exact .inl hr
    | false => rw [hx] at h; cases h; cases hr
  | no :: l, i, out, L, e, h, r, hr => by
    unfold sevGo at h
    dsimp only at h
    split at h
    · cases h; cases hr
    · split at h
      · cases h; cases hr
      · split at h
        · cases h; cases hr
        · rename_i h1 h2 h3
          have h0 : (findF bs no [0]).1 = 0 := by simpa using h3
          obtain ⟨g1, g2⟩ := findF_ok h0
          rcases sev_mem l _ _ _ _ h r hr with hh | ⟨n, h4, h5, h6⟩
          · rcases List.mem_append.1 hh with hh | hh
            · exact .inl hh
            · rw [List.mem_singleton] at hh
              subst hh
              exact .inr ⟨no, List.mem_cons_self .., g1, by simpa using g2⟩
          · exact .inr ⟨n, List.mem_cons_of_mem _ h4, h5, h6⟩
theorem several_eq {bs : List (Int × BaleR)} {all : List Int} : ∀ (l : List Int) (i : Nat) (out L : List BaleR), sevGo bs all i l out = (0, L) → L.length = out.length + l.length
  | [], i, out, L, h => by
    unfold sevGo at h
    cases hx : (out.all fun b => kindB b.kind ((out.head?.getD zBaleR).kind)) with
    | true => rw [hx] at h; cases h; rfl
    | false => rw [hx] at h; cases h
  | no :: l, i, out, L, h => by
    unfold sevGo at h
    dsimp only at h
    split at h
    · cases h
    · split at h
      · cases h
      · split at h
        · rename_i h3
          injection h with h h'
          exact absurd h h3
        · have := several_eq l _ _ _ h
          simp only [List.length_append, List.length_cons, List.length_nil] at this ⊢
          omega
theorem addP_len : ∀ (l : List PartR) (ps : List (Int × Int)), (addP ps l).length ≤ ps.length + l.length
  | [], ps => Nat.le_refl _
  | p :: l, ps => by
    have h1 := addP_len l (insL ltI p.clip (W ((getL eqI p.clip ps).getD 0 + p.grams)) ps)
    have h2 := length_insL (lt := ltI) (k := p.clip) (v := W ((getL eqI p.clip ps).getD 0 + p.grams)) ps
    simp only [addP, List.length_cons]
    omega
theorem addB_len : ∀ (l : List BaleR) (ps : List (Int × Int)), (∀ r, r ∈ l → r.parts.length < 1000) → (addB ps l).length ≤ ps.length + l.length * 1000
  | [], ps, _ => Nat.le_refl _
  | b :: l, ps, h => by
    have h1 := addB_len l (addP ps b.parts) (fun r hr => h r (List.mem_cons_of_mem _ hr))
    have h2 := addP_len b.parts ps
    have h3 := h b (List.mem_cons_self ..)
    simp only [addB, List.length_cons]
    omega
theorem addP_snoc : ∀ (l : List PartR) (p : PartR) (ps : List (Int × Int)), addP ps (l ++ [p]) = insL ltI p.clip (W ((getL eqI p.clip (addP ps l)).getD 0 + p.grams)) (addP ps l)
  | [], _, _ => rfl
  | x :: l, p, ps => by simp only [List.cons_append, addP]; exact addP_snoc l p _
theorem addB_snoc : ∀ (l : List BaleR) (b : BaleR) (ps : List (Int × Int)), addB ps (l ++ [b]) = addP (addB ps l) b.parts
  | [], _, _ => rfl
  | x :: l, b, ps => by simp only [List.cons_append, addB]; exact addB_snoc l b _
theorem sumB_snoc : ∀ (l : List BaleR) (b : BaleR) (g : Int), sumB g (l ++ [b]) = W (sumB g l + b.grams)
  | [], _, _ => rfl
  | x :: l, b, g => by simp only [List.cons_append, sumB]; exact sumB_snoc l b _

/-- The parts of the bales are added up. -/
def partsQ (M : List Nat) (b8 : Nat) (h0 h' : Hp) (ps : List (Int × Int)) : Prop := ∃ q, h'[b8]? = some (.cells #[.pointer q] 240 (0, 0)) ∧ II.Mp M h' q ps ∧ Chg [b8] h0 h'

theorem merge_x (M Mn : List Nat) (sb : Nat) (p : StP) (σ : StateR) (m : MoveR) (a : Option Addr) (cap : Nat) (h : Hp) (y : SC M sb h p σ) (hz : SizeW σ) (hn : IntsAt Mn h a cap m.nos) (hw : ∀ no, no ∈ m.nos → FindW σ no) :
    Call c Tryz.prog 115 #[.pointer (some ⟨sb, 0, none⟩), vMove m a cap] h (StepOk M sb h (mergeF σ m)) := by
  have hspl : mergeF σ m = mergeF σ m := rfl
  conv at hspl => rhs; unfold mergeF
  refine call_ofM layOk 117 Tryz.func115 Tryz.ntmps115 rfl rfl rfl ?_
  refine wp_new ?_
  intro mb h1 hN
  have hc1 := hN.chg []
  refine wp_load (v := .slice a m.nos.length cap) (ld_of hN.here rfl) ?_
  refine wp_br (fun g3 => ?_) (fun g3 => ?_)
  · have d3 : (m.nos.length : Int) > 16 := of_decide_eq_true g3
    rw [if_pos (by omega)] at hspl
    exact wp_done (finM_at [.int .i64 0, .int .i64 3] rfl ⟨rfl, rfl, trivial⟩ ((y.ext hc1).step (hc1.mono (by simp)) hspl))
  · have d3 : ¬ (m.nos.length : Int) > 16 := of_decide_eq_false g3
    rw [if_neg (by omega)] at hspl
    refine wp_load (v := .slice a m.nos.length cap) (ld_of hN.here rfl) ?_
    refine wp_br (fun g4 => ?_) (fun g4 => ?_)
    · have d4 : (m.nos.length : Int) < 2 := of_decide_eq_true g4
      rw [if_pos (by omega)] at hspl
      exact wp_done (finM_at [.int .i64 0, .int .i64 2] rfl ⟨rfl, rfl, trivial⟩ ((y.ext hc1).step (hc1.mono (by simp)) hspl))
    · have d4 : ¬ (m.nos.length : Int) < 2 := of_decide_eq_false g4
      rw [if_neg (by omega)] at hspl
      refine wp_load (v := .slice a m.nos.length cap) (ld_of hN.here rfl) ?_
      refine wp_call (several_x M Mn sb p σ m.nos a cap h1 (y.ext hc1) (hn.ext hc1) (by omega)) ?_
      rintro _ h3 ⟨L, e, aL, capL, blkL, rfl, hsev, hoL, hL, hc3, hfL⟩
      have hsev' : sevGo σ.bales m.nos 0 m.nos [] = (e, L.map (·.1)) := hsev
      have hLlen : L.length ≤ 16 := by
        have := several_len m.nos 0 [] (L.map (·.1)) e hsev'
        rw [List.length_map] at this
        simp at this
        omega
      have hmemL : ∀ x, x ∈ L → x.1.parts.length < 1000 := by
        intro x hx
        rcases sev_mem m.nos 0 [] _ e hsev' x.1 (List.mem_map_of_mem hx) with hh | ⟨no, h4, h5, _⟩
        · cases hh
        · exact Nat.lt_of_lt_of_le (hw no h4 x.1 h5).few (by decide)
      rw [hsev] at hspl
      dsimp only at hspl
      have hc03 := hc1.trans hc3
      have hmb3 := hc3.of hN.here (by simp)
      have y3 := y.ext hc03
      refine wp_br (fun g5 => ?_) (fun g5 => ?_)
      · have d5 : (e != 0) = true := g5
        have d5' : e ≠ 0 := by simpa using d5
        rw [if_pos d5'] at hspl
        exact wp_done (finM_at [.int .i64 0, .int .i64 e] rfl ⟨rfl, rfl, trivial⟩ (y3.step (hc03.mono (by simp)) hspl))
      · have d5 : (e != 0) = false := g5
        have d5' : e = 0 := by simpa using d5
        rw [if_neg (by simpa using d5')] at hspl
        refine wp_new ?_
        intro b8 h4 hN4
        have hc4 := hN4.chg []
        have hc04 := hc03.trans hc4
        have y4 := y3.new hN4
        have hoL4 := hoL.ext hc4
        have hL4 : AllOk (b8 :: M) h4 L := fun x hx => ((hL x hx).push hN4.le).ext hc4
        have hmb4 := hc4.of hmb3 (by simp)
        have hmlt := (Array.getElem?_eq_some_iff.1 hmb3).1
        have hb8m : mb ≠ b8 := by have := hN4.le; omega
        have hb8L : ∀ g, blkL = some g → g ∉ [b8] := fun g hg hm => by have := hoL.lt g hg; have := hN4.le; rw [List.mem_singleton] at hm; omega
        have h8M : ∀ k, k ∈ [b8] → k ∈ b8 :: M := fun k hk => by rw [List.mem_singleton] at hk; simp [hk]
        have hb8h : h.size ≤ b8 := Nat.le_trans hc03.size hN4.le
        refine wp_loopK layOk [43, 9, 11, 13, 14, 15] 44 74 rfl [0, 3, 6, 8, 41, 42] [.pointer (some ⟨sb, 0, none⟩), .pointer (some ⟨mb, 0, none⟩), .slice aL L.length capL, .pointer (some ⟨b8, 0, none⟩), .slice aL L.length capL, .int .i64 L.length] rfl [] rfl
          (fun k vals h' => ∃ (j : Nat) (u11 u13 u14 u15 : Value), vals = [.int .i64 j, .int .i64 (sumB 0 ((L.map (·.1)).take j)), u11, u13, u14, u15] ∧ j + k = L.length ∧ partsQ (b8 :: M) b8 h4 h' (addB [] ((L.map (·.1)).take j))) L.length
          ⟨0, _, _, _, _, rfl, by omega, none, hN4.here, .nil, Chg.refl _ _⟩ ?_
        rintro ρ0 k g vals h5 - ⟨j, u11, u13, u14, u15, rfl, hjk, q5, e5, hm5, hc5⟩
        have hoL5 := hoL4.chg hc5 hb8L
        refine wp_br (fun g6 => ?_) (fun g6 => ?_)
        · have hj' : (j : Int) < (L.length : Int) := of_decide_eq_true g6
          clear g6
          have hj : j < L.length := by omega
          have hje := List.getElem?_eq_getElem hj
          have hmem := List.getElem_mem hj
          generalize L[j] = x at hje hmem
          obtain ⟨r, q⟩ := x
          have hjm : (L.map (·.1))[j]? = some r := by rw [List.getElem?_map, hje]; rfl
          have htk : (L.map (·.1)).take (j + 1) = (L.map (·.1)).take j ++ [r] := by rw [List.take_add_one, hjm]; rfl
          have hlen1 : (addB [] ((L.map (·.1)).take j)).length ≤ 16 * 1000 := by
            have h1 := addB_len ((L.map (·.1)).take j) [] (fun r hr => by
              obtain ⟨x, hx, rfl⟩ := List.mem_map.1 (List.mem_of_mem_take hr)
              exact hmemL x hx)
            rw [List.length_take, List.length_map] at h1
            simp only [List.length_nil, Nat.zero_add] at h1
            refine Nat.le_trans h1 (Nat.mul_le_mul_right _ ?_)
            omega
          have hsum : sumB 0 ((L.map (·.1)).take (j + 1)) = W (sumB 0 ((L.map (·.1)).take j) + r.grams) := by rw [htk]; exact sumB_snoc _ _ _
          have hadd : addB [] ((L.map (·.1)).take (j + 1)) = addP (addB [] ((L.map (·.1)).take j)) r.parts := by rw [htk]; exact addB_snoc _ _ _
          have hpl : r.parts.length < 1000 := hmemL _ hmem
          have hq5 : BalOk (b8 :: M) h5 r q := (hL4 _ hmem).chg hc5 h8M
          generalize addB [] ((L.map (·.1)).take j) = ps at hlen1 hm5 hadd
          generalize sumB 0 ((L.map (·.1)).take j) = gs at hsum ⊢
          obtain ⟨b, rfl, rfl⟩ := hoL5.ptr (i := ti42) hj
          refine wp_chk ⟨by omega, by omega⟩ ?_
          refine wp_load (hoL5.ld1 (i := ti42) enBale hje) ?_
          refine wp_new ?_
          intro bx h6 hN6
          refine wp_store hN6.here (by rfl) ?_
          intro h7 hU7
          have hc57 : Chg [] h5 h7 := hU7.chgGe (hN6.chg []) hN6.le
          refine wp_load (v := .int .i64 r.grams) (ld_of hU7.here rfl) ?_
          refine wp_load (v := .slice q.pa r.parts.length q.pc) (ld_of hU7.here rfl) ?_
          have hq7 : BalOk (b8 :: M) h7 r q := hq5.ext hc57
          have e7 := hc57.of e5 (by simp)
          have hM7 : Bd (b8 :: M) h7 := (y4.bd.chg hc5).chg hc57
          have hbx8 : bx ∉ [b8] := fun hm => by
            have h1 := List.mem_singleton.1 hm
            have h2 := hN6.le
            have h3 := (Array.getElem?_eq_some_iff.1 e5).1
            omega
          refine wp_loopK layOk [54, 13, 14, 15] 55 73 rfl [0, 3, 6, 8, 41, 42, 43, 9, 11, 52, 53] [.pointer (some ⟨sb, 0, none⟩), .pointer (some ⟨mb, 0, none⟩), .slice (some ⟨b, 0, none⟩) L.length capL, .pointer (some ⟨b8, 0, none⟩), .slice (some ⟨b, 0, none⟩) L.length capL, .int .i64 L.length, .int .i64 j, .int .i64 (W (gs + r.grams)), .pointer (some ⟨bx, 0, none⟩), .slice q.pa r.parts.length q.pc, .int .i64 r.parts.length] rfl [] rfl
            (fun k vals h' => ∃ (i : Nat) (v13 v14 v15 : Value), vals = [.int .i64 i, v13, v14, v15] ∧ i + k = r.parts.length ∧ partsQ (b8 :: M) b8 h7 h' (addP ps (r.parts.take i))) r.parts.length
            ⟨0, _, _, _, rfl, by omega, q5, e7, hm5.ext hc57, Chg.refl _ _⟩ ?_
          rintro ρ1 k1 g1 vals h8 - ⟨i, v13, v14, v15, rfl, hik, q8, e8, hm8, hc8⟩
          have hq8 : BalOk (b8 :: M) h8 r q := hq7.chg hc8 h8M
          refine wp_br (fun g7 => ?_) (fun g7 => ?_)
          · have hi' : (i : Int) < (r.parts.length : Int) := of_decide_eq_true g7
            clear g7
            have hi : i < r.parts.length := by omega
            have hie := List.getElem?_eq_getElem hi
            have htki : r.parts.take (i + 1) = r.parts.take i ++ [r.parts[i]] := by rw [List.take_add_one, hie]; rfl
            have hadi : addP ps (r.parts.take (i + 1)) = insL ltI r.parts[i].clip (W ((getL eqI r.parts[i].clip (addP ps (r.parts.take i))).getD 0 + r.parts[i].grams)) (addP ps (r.parts.take i)) := by rw [htki]; exact addP_snoc _ _ _
            have hlen2 : (addP ps (r.parts.take i)).length < 900000 := by
              have := addP_len (r.parts.take i) ps
              rw [List.length_take] at this
              omega
            generalize r.parts[i] = pt at hie hadi
            generalize addP ps (r.parts.take i) = pi at hadi hlen2 hm8
            have hgv : ∃ bo, II.getV pt.clip pi = .tuple #[.int .i64 ((getL eqI pt.clip pi).getD 0), .bool bo] := by
              unfold II.getV
              cases getL eqI pt.clip pi with
              | none => exact ⟨false, rfl⟩
              | some t => exact ⟨true, rfl⟩
            obtain ⟨bo, hgv⟩ := hgv
            have hpa8 := hq8.1
            obtain ⟨bq, oq, hqa⟩ := hpa8.ptr (i := ti129) hi
            rw [hqa] at hpa8 ⊢
            refine wp_chk ⟨by omega, by omega⟩ ?_
            refine wp_load (hpa8.ld1 (i := ti129) enPart hie) ?_
            refine wp_new ?_
            intro by_ h9 hN9
            refine wp_store hN9.here (by rfl) ?_
            intro h10 hU10
            have hc810 : Chg [] h8 h10 := hU10.chgGe (hN9.chg []) hN9.le
            have e10 := hc810.of e8 (by simp)
            have hget := II.get_c (c := c) (b8 :: M) pi pt.clip q8 h10 (hm8.ext hc810)
            rw [hgv] at hget
            refine wp_load (ld_of e10 rfl) ?_
            refine wp_load (v := .int .i64 pt.clip) (ld_of hU10.here rfl) ?_
            refine wp_call hget ?_
            rintro _ h11 ⟨rfl, hc11⟩
            have hU11 := hc11.of hU10.here (by simp)
            have e11 := hc11.of e10 (by simp)
            have hc811 := hc810.trans hc11
            refine wp_load (ld_of e11 rfl) ?_
            refine wp_load (v := .int .i64 pt.clip) (ld_of hU11 rfl) ?_
            refine wp_load (v := .int .i64 pt.grams) (ld_of hU11 rfl) ?_
            refine wp_call (II.mput_c (b8 :: M) pi pt.clip (W ((getL eqI pt.clip pi).getD 0 + pt.grams)) q8 h11 ((hM7.chg hc8).chg hc811) (hm8.ext hc811) hlen2) ?_
            rintro _ h12 ⟨q12, rfl, hc12, hm12⟩
            rw [← hadi] at hm12
            refine wp_store (hc12.of e11 (by simp)) (by rfl) ?_
            intro h13 hU13
            have hx13 : Chg [b8] h12 h13 := hU13.chg (by simp)
            refine wp_done ⟨k1 - 1, by omega, i + 1, .pointer (some ⟨by_, 0, none⟩), .int .i64 ((getL eqI pt.clip pi).getD 0), .bool bo, ?_, by omega, q12, hU13.here, hm12.chg hx13 h8M, (hc8.trans ((hc811.trans hc12).mono (by simp))).trans hx13⟩
            exact congrArg (fun z => [Value.int .i64 z, .pointer (some ⟨by_, 0, none⟩), .int .i64 ((getL eqI pt.clip pi).getD 0), .bool bo]) (by rw [w64 (by omega) (by omega)]; omega)
          · have hi' : ¬ ((i : Int) < (r.parts.length : Int)) := of_decide_eq_false g7
            clear g7
            rw [List.take_of_length_le (by omega), ← hadd] at hm8
            refine wp_done ?_
            show X.wp _ _ _ _ _ _ _
            refine wp_done ⟨k - 1, by omega, j + 1, .pointer (some ⟨bx, 0, none⟩), v13, v14, v15, ?_, by omega, q8, e8, hm8, (hc5.trans (hc57.mono (by simp))).trans hc8⟩
            refine congr (congrArg (fun z z' => [Value.int .i64 z, .int .i64 z', .pointer (some ⟨bx, 0, none⟩), v13, v14, v15]) (by rw [w64 (by omega) (by omega)]; omega)) hsum.symm
        · have hj' : ¬ ((j : Int) < (L.length : Int)) := of_decide_eq_false g6
          clear g6
          rw [List.take_of_length_le (by rw [List.length_map]; omega)] at hm5
          have hsum : sumB 0 ((L.map (·.1)).take j) = sumB 0 (L.map (·.1)) := by rw [List.take_of_length_le (by rw [List.length_map]; omega)]
          generalize sumB 0 ((L.map (·.1)).take j) = gs at hsum ⊢
          subst hsum
          refine wp_done ?_
          show X.wp _ _ _ _ _ _ _
          have hoL5' := hoL5
          have hs8 : sb ∉ [b8] := fun hm => y3.ne hN4.le (List.mem_singleton.1 hm)
          have y5 := y4.chg hc5 h8M hs8
          have hc05 : Chg [] h h5 := hc04.fresh hc5 (fun k hk => .inr (by rw [List.mem_singleton] at hk; rw [hk]; exact hb8h))
          have yM5 : SC M sb h5 p σ := y5.sub (fun k hk => List.mem_cons_of_mem _ hk) y.mem
          have hL5 : AllOk (b8 :: M) h5 L := fun x hx => (hL4 x hx).chg hc5 h8M
          have hmb5 := hc5.of hmb4 (by simpa using hb8m)
          have hkind : L ≠ [] → ((L.map (·.1)).head?.getD zBaleR) = (L.head?.getD (zBaleR, zBalP)).1 := fun h => by
            cases L with
            | nil => exact absurd rfl h
            | cons _ _ => rfl
          have hps0 : (addB [] (L.map (·.1))).length ≤ 16 * 1000 := by
            have h1 := addB_len (L.map (·.1)) [] (fun r hr => by
              obtain ⟨x, hx, rfl⟩ := List.mem_map.1 hr
              exact hmemL x hx)
            rw [List.length_map] at h1
            simp only [List.length_nil, Nat.zero_add] at h1
            exact Nat.le_trans h1 (Nat.mul_le_mul_right _ hLlen)
          generalize addB [] (L.map (·.1)) = ps at hspl hm5 hps0
          generalize sumB 0 (L.map (·.1)) = gs at hspl ⊢
          refine wp_br (fun g7 => ?_) (fun g7 => ?_)
          · have d7 : gs > 1073741824 := of_decide_eq_true g7
            rw [if_pos d7] at hspl
            exact wp_done (finM_at [.int .i64 0, .int .i64 4] rfl ⟨rfl, rfl, trivial⟩ (yM5.step (hc05.mono (by simp)) hspl))
          · have d7 : ¬ gs > 1073741824 := of_decide_eq_false g7
            rw [if_neg d7] at hspl
            refine wp_call (full_x yM5) ?_
            rintro _ h6 ⟨rfl, hc6⟩
            have hc06 := hc05.trans hc6
            refine wp_br (fun g8 => ?_) (fun g8 => ?_)
            · have d8 : 512 ≤ σ.bales.length := of_decide_eq_true g8
              rw [if_pos d8] at hspl
              exact wp_done (finM_at [.int .i64 0, .int .i64 9] rfl ⟨rfl, rfl, trivial⟩ ((yM5.ext hc6).step (hc06.mono (by simp)) hspl))
            · have d8 : ¬ 512 ≤ σ.bales.length := of_decide_eq_false g8
              rw [if_neg d8] at hspl
              have y6 := y5.ext hc6
              have hmb6 := hc6.of hmb5 (by simp)
              have e6 := hc6.of e5 (by simp)
              have hm6 := hm5.ext hc6
              have hoL6 := hoL5'.ext hc6
              have hL6 : AllOk (b8 :: M) h6 L := hL5.ext hc6
              have hsbM : sb ∈ b8 :: M := y5.mem
              have hsm : ∀ k, k ∈ [sb] → k ∈ b8 :: M := fun k hk => by rw [List.mem_singleton] at hk; rw [hk]; exact hsbM
              have hmbs : mb ∉ [sb] := y.nin hN.le
              have h8s : b8 ∉ [sb] := y.nin hb8h
              have hLs : ∀ g, blkL = some g → g ∉ [sb] := fun g hg => y.nin (Nat.le_trans hc1.size (hfL g hg))
              refine wp_loopK layOk [83, 17] 84 91 rfl [0, 3, 6, 8, 9, 81, 82] [.pointer (some ⟨sb, 0, none⟩), .pointer (some ⟨mb, 0, none⟩), .slice aL L.length capL, .pointer (some ⟨b8, 0, none⟩), .int .i64 gs, .slice aL L.length capL, .int .i64 L.length] rfl [] rfl
                (fun k vals h' => ∃ (j : Nat) (u : Value), vals = [.int .i64 j, u] ∧ j + k = L.length ∧ Chg [sb] h6 h' ∧ ∃ p', SC (b8 :: M) sb h' p' (keepAll (fun b => { b with state := 3 }) ((L.map (·.1)).take j) σ)) L.length ⟨0, _, rfl, by omega, Chg.refl _ _, p, y6⟩ ?_
              rintro ρ1 k1 g1 vals h7 - ⟨j1, u1, rfl, hjk1, hc7, p7, y7⟩
              have hoL7 := hoL6.chg hc7 hLs
              have hL7 : AllOk (b8 :: M) h7 L := fun x hx => (hL6 x hx).chg hc7 hsm
              refine wp_br (fun g9 => ?_) (fun g9 => ?_)
              · have hj' : (j1 : Int) < (L.length : Int) := of_decide_eq_true g9
                clear g9
                have hj : j1 < L.length := by omega
                have hje := List.getElem?_eq_getElem hj
                have hmem := List.getElem_mem hj
                generalize L[j1] = x at hje hmem
                obtain ⟨r, q⟩ := x
                have hjm : (L.map (·.1))[j1]? = some r := by rw [List.getElem?_map, hje]; rfl
                have hq7 : BalOk (b8 :: M) h7 r q := hL7 _ hmem
                obtain ⟨b, rfl, rfl⟩ := hoL7.ptr (i := ti42) hj
                refine wp_chk ⟨by omega, by omega⟩ ?_
                refine wp_load (hoL7.ld1 (i := ti42) enBale hje) ?_
                refine wp_new ?_
                intro bx h8 hN8
                refine wp_store hN8.here (by rfl) ?_
                intro h9 hU9
                have hc79 : Chg [] h7 h9 := hU9.chgGe (hN8.chg []) hN8.le
                have y9 := (y7.new hN8).upd hU9 (by simp) (y7.ne hN8.le)
                have hq9 : BalOk (bx :: b8 :: M) h9 r q := (hq7.push hN8.le).ext hc79
                refine wp_store hU9.here (by rfl) ?_
                intro h10 hU10
                have hx10 : Chg [bx] h9 h10 := hU10.chg (by simp)
                have y10 := y9.upd hU10 (by simp) (y7.ne hN8.le)
                have hll := keepAll_len (fun b => { b with state := 3 }) ((L.map (·.1)).take j1) σ
                rw [List.length_take, List.length_map] at hll
                refine wp_load (v := vBale { r with state := 3 } q) (ld_of hU10.here rfl) ?_
                refine wp_call (keep_x { r with state := 3 } q y10 ((hq9.chg hx10 (by simp)).fields _ rfl rfl) (by have := hz.bales; omega)) ?_
                rintro _ h11 ⟨p11, y11, hc11⟩
                rw [← keepAll_take (fun b => { b with state := 3 }) (L.map (·.1)) j1 r hjm] at y11
                have hcc : Chg [sb] h6 h11 := ((hc7.trans (hc79.mono (by simp))).fresh hx10 (fun k hk => .inr (by rw [List.mem_singleton] at hk; rw [hk]; exact Nat.le_trans hc7.size hN8.le))).trans hc11
                refine wp_done ⟨k1 - 1, by omega, j1 + 1, .pointer (some ⟨bx, 0, none⟩), ?_, by omega, hcc, p11, y11.sub (fun k hk => List.mem_cons_of_mem _ hk) hsbM⟩
                exact congrArg (fun z => [Value.int .i64 z, .pointer (some ⟨bx, 0, none⟩)]) (by rw [w64 (by omega) (by omega)]; omega)
              · have hj' : ¬ ((j1 : Int) < (L.length : Int)) := of_decide_eq_false g9
                clear g9
                rw [List.take_of_length_le (by rw [List.length_map]; omega)] at y7
                have hzk := keepAll_len (fun b => { b with state := 3 }) (L.map (·.1)) σ
                rw [List.length_map] at hzk
                have hz1 := hz.bales
                generalize keepAll (fun b => { b with state := 3 }) (L.map (·.1)) σ = σ1 at hspl y7 hzk
                have hc06s : Chg [sb] h h7 := (hc06.mono (by simp)).trans hc7
                have hmb7 := hc7.of hmb6 hmbs
                have e7 := hc7.of e6 h8s
                have hm7 := hm6.chg hc7 hsm
                have hn7 : IntsAt [] h7 a cap m.nos := ((hn.ext hc06).offTy hc7 y6.blk (by decide)).sub (by simp)
                refine wp_done ?_
                show X.wp _ _ _ _ _ _ _
                have hLpos : 0 < L.length := by
                  have h1 := several_eq m.nos 0 [] (L.map (·.1)) (by rw [← d5']; exact hsev')
                  rw [List.length_map] at h1
                  simp at h1
                  omega
                have h0e := List.getElem?_eq_getElem hLpos
                have hkd : ((L.map (·.1)).head?.getD zBaleR) = L[0].1 := by
                  cases L with
                  | nil => simp at hLpos
                  | cons _ _ => rfl
                rw [hkd] at hspl
                generalize L[0] = x0 at h0e hspl
                obtain ⟨r0, q0⟩ := x0
                dsimp only at hspl
                obtain ⟨bL, rfl, rfl⟩ := hoL7.ptr (i := ti42) hLpos
                refine wp_drawG layOk mixed [] (fun o => freesO (rs [(0, 6)]) (.alt 7 (.alt 8 (seqO o (rs [(9, 11)])) (.alt 10 (seqO o (rs [(8, 9), (11, 11)])) (.non))) (.alt 10 (seqO o (rs [(7, 9), (11, 11)])) (.non)))) [7, 8, 10] (by kernel_rfl) [0, 8, 18] [] rfl
                  (fun vals h' => ∃ b18 af cf blkf, vals = [.pointer (some ⟨sb, 0, none⟩), .pointer (some ⟨b8, 0, none⟩), .pointer (some ⟨b18, 0, none⟩)] ∧ h'[b18]? = some (.cells (elBale ⟨0, r0.kind, gs, [], 0, ⟨#[]⟩, sortI m.nos⟩ ⟨none, 0, af, cf⟩).toArray 42 (0, 0)) ∧
                    IntsOwn h' af cf (sortI m.nos) blkf ∧ Chg [] h7 h' ∧ Fresh h7 blkf ∧ h7.size ≤ b18) ?_ ?_
                · refine wp_chk ⟨by omega, by omega⟩ ?_
                  refine wp_load (v := vKind r0.kind) ((hoL7.sl (M := []) (by simp)).ldA (i := ti42) enBale (tf := ti39) rfl (by decide) h0e (k := 1) (by decide)) ?_
                  refine wp_load (v := .slice a m.nos.length cap) (ld_of hmb7 rfl) ?_
                  refine wp_both ?_ ?_
                  · refine wp_callE (values_c m.nos a cap h7) ?_
                    rintro _ h8 ⟨bv, rfl, hN8⟩
                    refine ⟨hN8.chg _, ?_⟩
                    refine wp_both ?_ ?_
                    · refine wp_callE (sorted_c [] m.nos a cap bv (by omega) h8 (hn7.ext (hN8.chg [])) hN8.here) ?_
                      rintro _ h9 ⟨a9, cap9, blk9, rfl, ho9, hc9, hf9⟩
                      refine ⟨hc9, ?_⟩
                      refine wp_new ?_
                      intro b18 h10 hN10
                      refine wp_store hN10.here (by rfl) ?_
                      intro h11 hU11
                      have hc1 : Chg [] h7 h9 := (hN8.chg []).trans hc9
                      have hc2 : Chg [] h7 h11 := hU11.chgGe (hc1.trans (hN10.chg [])) (Nat.le_trans hc1.size hN10.le)
                      refine wp_done ⟨b18, a9, cap9, blk9, rfl, ?_, (ho9.ext (hN10.chg [])).wr hU11 (fun g hg => by have := ho9.lt g hg; have := hN10.le; omega), hc2, hf9.back (hN8.chg []).size, Nat.le_trans hc1.size hN10.le⟩
                      rw [hU11.here]
                      unfold elBale
                      rw [sortI_len]
                      rfl
                    · refine wp_new ?_
                      intro b18 h10 hN10
                      refine wp_callE (sorted_c [] m.nos a cap bv (by omega) h10 ((hn7.ext (hN8.chg [])).ext (hN10.chg [])) (hN10.of hN8.here)) ?_
                      rintro _ h9 ⟨a9, cap9, blk9, rfl, ho9, hc9, hf9⟩
                      refine ⟨hc9, ?_⟩
                      refine wp_store (hc9.of hN10.here (by simp)) (by rfl) ?_
                      intro h11 hU11
                      have hc1 : Chg [] h7 h9 := ((hN8.chg []).trans (hN10.chg [])).trans hc9
                      have hle : h7.size ≤ b18 := Nat.le_trans (hN8.chg []).size hN10.le
                      have hc2 : Chg [] h7 h11 := hU11.chgGe hc1 hle
                      have hs10 := hN10.size
                      refine wp_done ⟨b18, a9, cap9, blk9, rfl, ?_, ho9.wr hU11 (fun g hg => by have := hf9 g hg; omega), hc2, hf9.back ((hN8.chg []).trans (hN10.chg [])).size, hle⟩
                      rw [hU11.here]
                      unfold elBale
                      rw [sortI_len]
                      rfl
                  · refine wp_new ?_
                    intro b18 h10 hN10
                    refine wp_callE (values_c m.nos a cap h10) ?_
                    rintro _ h8 ⟨bv, rfl, hN8⟩
                    refine ⟨hN8.chg _, ?_⟩
                    refine wp_callE (sorted_c [] m.nos a cap bv (by omega) h8 ((hn7.ext (hN10.chg [])).ext (hN8.chg [])) hN8.here) ?_
                    rintro _ h9 ⟨a9, cap9, blk9, rfl, ho9, hc9, hf9⟩
                    refine ⟨hc9, ?_⟩
                    refine wp_store (hc9.of (hN8.of hN10.here) (by simp)) (by rfl) ?_
                    intro h11 hU11
                    have hc1 : Chg [] h7 h9 := ((hN10.chg []).trans (hN8.chg [])).trans hc9
                    have hc2 : Chg [] h7 h11 := hU11.chgGe hc1 hN10.le
                    have hs10 := hN10.size
                    have hs8 := hN8.size
                    have hl8 := hN8.le
                    refine wp_done ⟨b18, a9, cap9, blk9, rfl, ?_, ho9.wr hU11 (fun g hg => by have := hf9 g hg; omega), hc2, hf9.back ((hN10.chg []).trans (hN8.chg [])).size, hN10.le⟩
                    rw [hU11.here]
                    unfold elBale
                    rw [sortI_len]
                    rfl
                · rintro ρ2 _ h8 ⟨b18, af, cf, blkf, rfl, e18, hof, hc8, hff, hle18⟩
                  have y8 := y7.ext hc8
                  have e8 := hc8.of e7 (by simp)
                  have hm8 := hm7.ext hc8
                  refine wp_load (ld_of e8 rfl) ?_
                  refine wp_call (II.all_c q5 h8) ?_
                  rintro _ h9 ⟨bA, rfl, hN9⟩
                  have hc79 : Chg [] h7 h9 := hc8.trans (hN9.chg [])
                  have hb18lt : b18 < h9.size := by have := (Array.getElem?_eq_some_iff.1 e18).1; have := hN9.size; have := hN9.le; omega
                  have y9 : SC (b18 :: b8 :: M) sb h9 p7 σ1 := y7.push hle18 hc79 hb18lt
                  have e189 := hN9.of e18
                  have hof9 := hof.ext (hN9.chg [])
                  have hA18 : bA ∉ b18 :: b8 :: M := fun hm => by
                    rcases List.mem_cons.1 hm with hm | hm
                    · have := (Array.getElem?_eq_some_iff.1 e18).1
                      have := hN9.le
                      omega
                    · exact y8.notM hN9.le hm
                  have hm9 : II.Mp (b18 :: b8 :: M) h9 q5 ps := (hm7.push hle18).ext hc79
                  have hx18 : ∀ k, k ∈ [b18] → k ∈ b18 :: b8 :: M := fun k hk => by rw [List.mem_singleton] at hk; simp [hk]
                  have hfb : ∀ g, blkf = some g → g ≠ b18 := by
                    intro g hg e
                    rcases hof with ⟨_, _, _, r⟩ | ⟨g', cs, _, r, r2, _⟩
                    · rw [r] at hg; cases hg
                    · rw [r] at hg
                      cases hg
                      rw [e, e18] at r2
                      injection r2 with r2
                      injection r2 with _ r3 _
                      cases r3
                  obtain ⟨P, hP⟩ : ∃ P : List PartR, P = ps.map fun x => ⟨x.1, x.2⟩ := ⟨_, rfl⟩
                  have hPl : P.length = ps.length := by rw [hP, List.length_map]
                  have hPi : ∀ (i : Nat) (x : List Value), (ps.map II.pr)[i]? = some x → ∃ pt : PartR, P[i]? = some pt ∧ x = [Value.int .i64 pt.clip, Value.int .i64 pt.grams] := by
                    intro i x hx
                    rw [List.getElem?_map] at hx
                    cases hp : ps[i]? with
                    | none => rw [hp] at hx; cases hx
                    | some z =>
                      rw [hp] at hx
                      cases hx
                      exact ⟨⟨z.1, z.2⟩, by rw [hP, List.getElem?_map, hp]; rfl, rfl⟩
                  have hps : ps.length < 800000 := by omega
                  rw [← hP] at hspl
                  refine wp_rangeF (gf := 215) (cap := #[.pointer (some ⟨bA, 0, none⟩)]) layOk rfl rfl (ps.map II.pr) (fun x hx => by
                      obtain ⟨v, _, rfl⟩ := List.mem_map.1 hx
                      rfl)
                    (fun i h' => ∃ a3 cap3 blk3, h'[b18]? = some (.cells (elBale ⟨0, r0.kind, gs, P.take i, 0, ⟨#[]⟩, sortI m.nos⟩ ⟨a3, cap3, af, cf⟩).toArray 42 (0, 0)) ∧ PartsOwn h' a3 cap3 (P.take i) blk3 ∧ Chg [b18] h9 h' ∧ h9.size + 2 ≤ h'.size ∧ ∀ g, blk3 = some g → h9.size + 2 ≤ g) ?_ ?_ ?_ ?_ ?_
                  · rintro i ha hb o ⟨a3, cap3, blk3, e1, e2, e3, e5, e6⟩ hU
                    exact ⟨a3, cap3, blk3, hU.of e1 (by omega), e2.wr hU (fun g hg => by have := e6 g hg; omega), ⟨by rw [hU.size]; exact e3.size, fun k hk hm => (hU.other k (by omega)).trans (e3.same k hk hm)⟩, by rw [hU.size]; exact e5, e6⟩
                  · intro h10 hc10 hs10
                    exact ⟨none, 0, none, hc10.of e189 (by simp), OwnAt.nil, hc10.mono (by simp), by omega, fun g hg => by cases hg⟩
                  · intro J h10 hc10 hJI hyl hJ0
                    refine II.it_c (b18 :: b8 :: M) h9 ps q5 bA hm9 hN9.here hA18 (h10.size - 1) J (fun i h' hj => ?_) h10 hJ0 hyl
                    obtain ⟨a3, cap3, blk3, e1, e2, e3, e5, e6⟩ := hJI i h' hj
                    exact e3.mono hx18
                  · rintro i x h10 d hx ⟨a3, cap3, blk3, e1, e2, e3, e5, e6⟩ hld hdf
                    obtain ⟨pt, hpt, rfl⟩ := hPi i x hx
                    have hi := (List.getElem?_eq_some_iff.1 hpt).1
                    have htk : P.take (i + 1) = P.take i ++ [pt] := by rw [List.take_add_one, hpt]; rfl
                    refine wp_done ⟨rfl, rfl, rfl, fun h11 d' hU => ?_⟩
                    have hs11 : h11.size = h10.size := hU.size
                    refine wp_load (v := .slice a3 (P.take i).length cap3) (ld_of (hU.of e1 (by omega)) rfl) ?_
                    refine wp_new ?_
                    intro b4 h12 hN12
                    have ho12 := (e2.wr hU (fun g hg => by have := e6 g hg; omega)).ext (hN12.chg [])
                    refine wp_append layOk (t := 40) rfl rfl rfl (i := ti129) enPart rfl rfl rfl ho12 (M := []) (l' := [pt]) (.inr ⟨b4, 0, _, rfl, by simp, hN12.here, Nat.le_refl _, Nat.le_refl _, rfl⟩) (by rw [List.length_take]; simp; omega) (by simp) ?_
                    intro h13 a5 cap5 blk5 ho5 hc5 hb5
                    rw [← htk] at ho5 ⊢
                    have hs12 : h12.size = h11.size + 1 := by rw [hN12.heap]; simp
                    have hb3n : b18 ∉ blk3.toList := fun hm => by
                      have : blk3 = some b18 := by simpa using hm
                      have := e6 _ this
                      omega
                    have e13 := hc5.of (hN12.of (hU.of e1 (by omega))) hb3n
                    have hdn : ∀ k, k = h9.size ∨ k = h9.size + 1 → k ∉ blk3.toList := fun k hk hm => by
                      have : blk3 = some k := by simpa using hm
                      have := e6 k this
                      omega
                    have hblk : ∀ g, blk5 = some g → h9.size + 2 ≤ g := by
                      intro g hg
                      rcases hb5 with rfl | ⟨g', rfl, hg'⟩
                      · exact e6 g hg
                      · cases hg
                        omega
                    have hc912 : Chg [b18] h9 h12 := Chg.trans ⟨by rw [hs11]; exact e3.size, fun k hk hm => (hU.other k (by omega)).trans (e3.same k hk hm)⟩ (hN12.chg _)
                    have hc913 : Chg [b18] h9 h13 := hc912.fresh hc5 fun k hk => .inr (by have := e6 k (by simpa using hk); omega)
                    refine wp_store e13 (by rfl) ?_
                    intro h14 hU14
                    have hst : ∀ k o, k = h9.size ∨ k = h9.size + 1 → h11[k]? = some o → h14[k]? = some o := fun k o hk hx =>
                      hU14.of (hc5.of (hN12.of hx) (hdn k hk)) (by omega)
                    refine wp_done ⟨rfl, ⟨a5, cap5, blk5, hU14.here, ho5.wr hU14 (fun g hg => by have := hblk g hg; omega), hc913.trans (hU14.chg (by simp)), ?_, hblk⟩, ?_, ?_⟩
                    · rw [hU14.size]
                      have := hc5.size
                      omega
                    · have : h11[h9.size + 1]? = some (.loop d') := hU.here
                      rw [this]
                      exact hst _ _ (.inr rfl) this
                    · exact hst _ _ (.inl rfl) (hU.of hdf (by omega))
                  · rintro h10 ⟨a3, cap3, blk3, e1, e2, e3, e5, e6⟩ hdf
                    rw [List.length_map, ← hPl, List.take_length] at e1 e2
                    have y10 : SC (h9.size :: b18 :: b8 :: M) sb h10 p7 σ1 := y9.pushChg (Nat.le_refl _) e3 hx18 (fun hm => y7.ne hle18 (List.mem_singleton.1 hm)) (by omega)
                    have hDs : h9.size ∉ [sb] := y9.nin (Nat.le_refl _)
                    have hb3 : ∀ g, blk3 = some g → g ∉ h9.size :: b18 :: b8 :: M := fun g hg hm => by
                      have h1 := e6 g hg
                      rcases List.mem_cons.1 hm with hm | hm
                      · omega
                      · have := y9.bd g hm
                        omega
                    have hqf : IntsAt (h9.size :: b18 :: b8 :: M) h10 af cf (sortI m.nos) := by
                      refine (hof9.chg e3 (fun g hg hm => hfb g hg (List.mem_singleton.1 hm))).sl (fun g hg hm => ?_)
                      rcases List.mem_cons.1 hm with hm | hm
                      · have := hof9.lt g hg
                        omega
                      · rcases List.mem_cons.1 hm with hm | hm
                        · exact hfb g hg hm
                        · exact y7.notM (hff g hg) hm
                    refine wp_load (v := vBale ⟨0, r0.kind, gs, P, 0, ⟨#[]⟩, sortI m.nos⟩ ⟨a3, cap3, af, cf⟩) (ld_of e1 rfl) ?_
                    refine wp_call (made_x ⟨0, r0.kind, gs, P, 0, ⟨#[]⟩, sortI m.nos⟩ ⟨a3, cap3, af, cf⟩ y10 ⟨e2.sl hb3, hqf⟩ (by omega)) ?_
                    rintro _ h11 ⟨rfl, p11, y11, hc11⟩
                    have hcc : Chg [sb] h h11 := ((hc06s.trans (hc79.mono (by simp))).fresh e3 (fun k hk => .inr (by rw [List.mem_singleton] at hk; rw [hk]; exact Nat.le_trans hc06s.size hle18))).trans hc11
                    refine wp_done (finM_mark h9.size rfl (hc11.of hdf hDs) fun h12 hU12 => ?_)
                    refine ⟨[.int .i64 (σ1.bales.length + 1), .int .i64 0], ⟨rfl, rfl, trivial⟩, ?_⟩
                    have y12 := (y11.upd hU12 (by simp) (fun e => hDs (by simp [e]))).sub (fun k hk => List.mem_cons_of_mem _ (List.mem_cons_of_mem _ (List.mem_cons_of_mem _ hk))) y.mem
                    exact y12.step (hU12.chgGe hcc (Nat.le_trans hc06s.size hc79.size)) hspl
end Go.Xe
namespace Go.Xe
open Go
/-- a map's entries, the first one born at i -/
def entsF : Nat → List (Int × Value) → List MapEntry
  | _, [] => []
  | i, (k, v) :: l => { key := .int .i64 k, val := v, born := i } :: entsF (i + 1) l
def ents (l : List (Int × Value)) : Array MapEntry := (entsF 0 l).toArray
def getA (k : Int) : List (Int × Value) → Option Value
  | [] => none
  | (a, v) :: l => if k = a then some v else getA k l
def idxA (k : Int) : List (Int × Value) → Nat
  | [] => 0
  | (a, _) :: l => if k = a then 0 else idxA k l + 1
def setA (k : Int) (v : Value) : List (Int × Value) → List (Int × Value)
  | [] => [(k, v)]
  | (a, u) :: l => if k = a then (k, v) :: l else (a, u) :: setA k v l
theorem getA_set (k : Int) (v : Value) (k' : Int) : ∀ l, getA k' (setA k v l) = if k' = k then some v else getA k' l
  | [] => by simp [setA, getA]
  | (a, u) :: l => by
    simp only [setA]
    by_cases h : k = a
    · subst h
      simp only [if_true, getA]
      split <;> rfl
    · simp only [if_neg h, getA, getA_set k v k' l]
      by_cases h' : k' = a
      · subst h'
        simp [Ne.symm h]
      · simp [h']
theorem entsF_len : ∀ (l : List (Int × Value)) (i : Nat), (entsF i l).length = l.length
  | [], _ => rfl
  | (_, _) :: l, i => by simp [entsF, entsF_len l]
theorem findNow_ents (k : Int) : ∀ (l : List (Int × Value)) (i j : Nat), Instr.findNow (.int .i64) (.int .i64 k) (entsF i l) j = some ((getA k l).map fun v => (j + idxA k l, v))
  | [], _, _ => rfl
  | (a, v) :: l, i, j => by
    simp only [entsF, Instr.findNow, Instr.sameNow, if_true, getA, idxA]
    by_cases h : k = a
    · subst h; simp
    · have : (k == a) = false := by simpa using h
      rw [this]
      simp only [if_neg h]
      rw [findNow_ents k l (i + 1) (j + 1)]
      cases getA k l with
      | none => rfl
      | some v => simp; omega
theorem ents_push (k : Int) (v : Value) : ∀ (l : List (Int × Value)) (i : Nat), getA k l = none → entsF i (setA k v l) = entsF i l ++ [{ key := .int .i64 k, val := v, born := i + l.length }]
  | [], _, _ => by simp [setA, entsF]
  | (a, u) :: l, i, h => by
    simp only [getA] at h
    split at h
    · cases h
    · rename_i h1
      simp only [setA, if_neg h1, entsF, ents_push k v l (i + 1) h, List.cons_append, List.length_cons]
      rw [show i + 1 + l.length = i + (l.length + 1) from by omega]
theorem ents_mod (k : Int) (v u : Value) : ∀ (l : List (Int × Value)) (i : Nat), getA k l = some u → entsF i (setA k v l) = (entsF i l).modify (idxA k l) fun e => { e with key := .int .i64 k, val := v }
  | [], _, h => by simp [getA] at h
  | (a, x) :: l, i, h => by
    simp only [getA] at h
    by_cases h1 : k = a
    · subst h1
      simp [setA, entsF, idxA]
    · simp only [if_neg h1] at h
      simp only [setA, if_neg h1, entsF, idxA, ents_mod k v u l (i + 1) h, List.modify_succ_cons]
theorem ents_at (k : Int) (u : Value) : ∀ (l : List (Int × Value)) (i : Nat), getA k l = some u → ∃ e, (entsF i l)[idxA k l]? = some e ∧ e.key = .int .i64 k
  | [], _, h => by simp [getA] at h
  | (a, x) :: l, i, h => by
    simp only [getA] at h
    by_cases h1 : k = a
    · subst h1
      exact ⟨{ key := .int .i64 k, val := x, born := i }, by simp [entsF, idxA], rfl⟩
    · simp only [if_neg h1] at h
      obtain ⟨e, h2, h3⟩ := ents_at k u l (i + 1) h
      exact ⟨e, by simpa [entsF, idxA, if_neg h1] using h2, h3⟩
theorem setA_len (k : Int) (v : Value) : ∀ l : List (Int × Value), (setA k v l).length = if (getA k l).isSome then l.length else l.length + 1
  | [] => rfl
  | (a, u) :: l => by
    simp only [setA, getA]
    by_cases h : k = a
    · simp [h]
    · simp only [if_neg h, List.length_cons, setA_len k v l]
      split <;> rfl
/-- a map lies at b -/
def MapIs (h : Hp) (b : Nat) (l : List (Int × Value)) : Prop := h[b]? = some (.map (ents l) l.length)
section
variable {P : Program} {c : World} {ro : Option Nat} {n : Nat} {h : Hp} {Q : Exit → St → Hp → Prop}
theorem wp_makeMap {e : Option (List Nat)} {T : Nat} {k : Value → X} (hk : ∀ b h', New h h' b (.map #[] 0) → (k (.map (some b))).wp c P ro n h' Q) : (X.sem e (Instr.makeMap T none) k).wp c P ro n h Q := by
  intro w hw hc
  subst hw
  refine ⟨.map (some w.heap.size), w.alloc (.map #[] 0), by simp [Instr.makeMap, Result.andThen], ⟨hc.os, hc.tape, hc.output⟩, Kp.of _ (New.chg (o := .map #[] 0) ⟨rfl, rfl⟩ []), hk _ _ ⟨rfl, rfl⟩⟩
theorem wp_lookup {e : Option (List Nat)} {T kt et b : Nat} {k : Value → X} {ok : Bool} {l : List (Int × Value)} {x : Int} {z : Value} (hm : P.underlying T = some (.map kt et)) (hd : P.underlying kt = some (.int .i64)) (hz : ∀ w, (zeroValue et).run P w = .ok z w)
    (hb : MapIs h b l) (hk : (k (if ok then .tuple #[(getA x l).getD z, .bool (getA x l).isSome] else (getA x l).getD z)).wp c P ro n h Q) : (X.sem e (Instr.lookup T (.map (some b)) (.int .i64 x) ok) k).wp c P ro n h Q := by
  intro w hw hc
  subst hw
  refine ⟨_, w, ?_, hc, Kp.refl _ _, hk⟩
  unfold Instr.lookup
  have h1 := findNow_ents x l 0 0
  have hck : ∀ (e : Bool), (Instr.checkKey e 10000 kt (.int .i64 x)).run P w = .ok () w := fun e => MapKept.run_checkKey hd (show MapKept.IsKey (.int .i64) (.int .i64 x) from by simp [MapKept.IsKey]) e 9999
  have hgo := MapKept.run_getObj_map (P := P) hb
  simp only [Sem.run_bind, run_underlying hm, Result.andThen_ok, hgo, Sem.run_pure, hck]
  rw [MapKept.run_findKey hd (show Instr.findNow (.int .i64) (.int .i64 x) (ents l).toList 0 = _ from by unfold ents; simpa using h1)]
  cases hg : getA x l with
  | none => simp [hz]
  | some v => simp
theorem wp_lookupS {e : Option (List Nat)} {T kt et b : Nat} {k : Value → X} {l : List (Int × Value)} {x : Int} {z : Value} (v : Value) (hm : P.underlying T = some (.map kt et)) (hd : P.underlying kt = some (.int .i64)) (hz : ∀ w, (zeroValue et).run P w = .ok z w)
    (hb : MapIs h b l) (hv : getA x l = some v) (hk : (k (.tuple #[v, .bool true])).wp c P ro n h Q) : (X.sem e (Instr.lookup T (.map (some b)) (.int .i64 x) true) k).wp c P ro n h Q :=
  wp_lookup hm hd hz hb (by rw [hv]; exact hk)
theorem wp_lookupN {e : Option (List Nat)} {T kt et b : Nat} {k : Value → X} {l : List (Int × Value)} {x : Int} (z : Value) (hm : P.underlying T = some (.map kt et)) (hd : P.underlying kt = some (.int .i64)) (hz : ∀ w, (zeroValue et).run P w = .ok z w)
    (hb : MapIs h b l) (hv : getA x l = none) (hk : (k (.tuple #[z, .bool false])).wp c P ro n h Q) : (X.sem e (Instr.lookup T (.map (some b)) (.int .i64 x) true) k).wp c P ro n h Q :=
  wp_lookup hm hd hz hb (by rw [hv]; exact hk)
theorem wp_mapSet {T kt et b : Nat} {kx : X} {l : List (Int × Value)} {x : Int} {v : Value} (hm : P.underlying T = some (.map kt et)) (hd : P.underlying kt = some (.int .i64))
    (hb : MapIs h b l) (hk : ∀ h', MapIs h' b (setA x v l) → Upd h h' b (.map (ents (setA x v l)) (setA x v l).length) → kx.wp c P ro n h' Q) : (X.semU none (Instr.mapUpdate T (.map (some b)) (.int .i64 x) v) kx).wp c P ro n h Q := by
  intro w hw hc
  subst hw
  have h1 := findNow_ents x l 0 0
  have hck : (Instr.checkKey false 10000 kt (.int .i64 x)).run P w = .ok () w := MapKept.run_checkKey hd (show MapKept.IsKey (.int .i64) (.int .i64 x) from by simp [MapKept.IsKey]) false 9999
  have hgo := MapKept.run_getObj_map (P := P) hb
  have hfk := MapKept.run_findKey (w := w) hd (show Instr.findNow (.int .i64) (.int .i64 x) (ents l).toList 0 = _ from by unfold ents; simpa using h1)
  have hlen := setA_len x v l
  cases hg : getA x l with
  | none =>
    rw [hg] at hfk hlen
    have hset : Obj.map ((ents l).push { key := .int .i64 x, val := v, born := l.length }) (l.length + 1) = .map (ents (setA x v l)) (setA x v l).length := by
      rw [hlen]
      unfold ents
      rw [ents_push x v l 0 hg]
      simp
    have hhs := MapKept.heap_set (o' := .map (ents (setA x v l)) (setA x v l).length) hb
    refine ⟨(), { w with heap := w.heap.setIfInBounds b (.map (ents (setA x v l)) (setA x v l).length) }, ?_, ⟨hc.os, hc.tape, hc.output⟩, trivial, hk _ hhs.1 ⟨by simp, hhs.1, hhs.2⟩⟩
    unfold Instr.mapUpdate
    simp only [Sem.run_bind, run_underlying hm, Result.andThen_ok, hgo, hck, hfk, Option.map_none]
    rw [MapKept.run_setObj_map _ hb, hset]
  | some u =>
    rw [hg] at hfk hlen
    simp only [Option.map_some, Nat.zero_add, Option.isSome_some, if_true] at hfk hlen
    obtain ⟨e, he, hek⟩ := ents_at x u l 0 hg
    have hset : Obj.map ((ents l).modify (idxA x l) fun e => { e with key := .int .i64 x, val := v }) l.length = .map (ents (setA x v l)) (setA x v l).length := by
      rw [hlen]
      unfold ents
      rw [ents_mod x v u l 0 hg]
      simp
    have hhs := MapKept.heap_set (o' := .map (ents (setA x v l)) (setA x v l).length) hb
    refine ⟨(), { w with heap := w.heap.setIfInBounds b (.map (ents (setA x v l)) (setA x v l).length) }, ?_, ⟨hc.os, hc.tape, hc.output⟩, trivial, hk _ hhs.1 ⟨by simp, hhs.1, hhs.2⟩⟩
    unfold Instr.mapUpdate
    have hkey : (((ents l)[idxA x l]?).map (·.key)).getD (.int .i64 x) = .int .i64 x := by
      have : (ents l)[idxA x l]? = some e := by unfold ents; simpa using he
      rw [this]
      exact hek
    simp only [Sem.run_bind, run_underlying hm, Result.andThen_ok, hgo, hck, hfk, hkey]
    have hst : ∀ w : World, (Instr.keyThatStays (.int .i64 x) (.int .i64 x)).run P w = .ok (.int .i64 x) w := fun w => by
      simp [Instr.keyThatStays, Instr.sameBits]
    simp only [hst, Result.andThen_ok]
    rw [MapKept.run_setObj_map _ hb, hset]
end
end Go.Xe
namespace Go.Xe
open Go Go.Proofs
set_option maxRecDepth 20000
variable {c : World}
def fnV (f : Nat) : Value := .func (.func f) #[] #[]
def chL : List (Int × Value) := [(1, fnV 112), (2, fnV 113), (3, fnV 114), (4, fnV 115), (5, fnV 116), (6, fnV 117), (7, fnV 118), (8, fnV 119), (9, fnV 120), (10, fnV 121), (11, fnV 122), (12, fnV 123)]
theorem changes_c (h : Hp) : Call c Tryz.prog 76 #[] h fun v h' => ∃ b, v = .map (some b) ∧ MapIs h' b chL ∧ Chg [] h h' := by
  refine call_of layOk 3 Tryz.func76 Tryz.ntmps76 rfl rfl rfl rfl ?_
  refine wp_makeMap ?_
  intro b h0 hN
  have h00 : MapIs h0 b [] := hN.here
  have hc0 := hN.chg []
  have hle := hN.le
  refine wp_mapSet Tryz.underlying154 Tryz.underlying3 h00 ?_
  intro h1 m1 u1
  refine wp_mapSet Tryz.underlying154 Tryz.underlying3 m1 ?_
  intro h2 m2 u2
  refine wp_mapSet Tryz.underlying154 Tryz.underlying3 m2 ?_
  intro h3 m3 u3
  refine wp_mapSet Tryz.underlying154 Tryz.underlying3 m3 ?_
  intro h4 m4 u4
  refine wp_mapSet Tryz.underlying154 Tryz.underlying3 m4 ?_
  intro h5 m5 u5
  refine wp_mapSet Tryz.underlying154 Tryz.underlying3 m5 ?_
  intro h6 m6 u6
  refine wp_mapSet Tryz.underlying154 Tryz.underlying3 m6 ?_
  intro h7 m7 u7
  refine wp_mapSet Tryz.underlying154 Tryz.underlying3 m7 ?_
  intro h8 m8 u8
  refine wp_mapSet Tryz.underlying154 Tryz.underlying3 m8 ?_
  intro h9 m9 u9
  refine wp_mapSet Tryz.underlying154 Tryz.underlying3 m9 ?_
  intro h10 m10 u10
  refine wp_mapSet Tryz.underlying154 Tryz.underlying3 m10 ?_
  intro h11 m11 u11
  refine wp_mapSet Tryz.underlying154 Tryz.underlying3 m11 ?_
  intro h12 m12 u12
  have hc := u12.chgGe (u11.chgGe (u10.chgGe (u9.chgGe (u8.chgGe (u7.chgGe (u6.chgGe (u5.chgGe (u4.chgGe (u3.chgGe (u2.chgGe (u1.chgGe hc0 hle) hle) hle) hle) hle) hle) hle) hle) hle) hle) hle) hle
  exact wp_done ⟨rfl, b, rfl, m12, hc⟩
def zMoveR : MoveR := ⟨0, 0, [], 0, ⟨0, 0, 0, 0⟩, ⟨#[]⟩, ⟨#[]⟩⟩
def plainF (m : MoveR) : MoveR :=
  if m.what = 1 then { zMoveR with what := m.what, name := m.name, owner := m.owner }
  else if m.what = 2 then { zMoveR with what := m.what, no := m.no, kind := m.kind, grams := m.grams }
  else if m.what = 3 ∨ m.what = 5 ∨ m.what = 6 then { zMoveR with what := m.what, no := m.no, grams := m.grams }
  else if m.what = 4 then { zMoveR with what := m.what, nos := m.nos }
  else if m.what = 10 then { zMoveR with what := m.what, name := m.name, nos := m.nos }
  else if m.what = 11 ∨ m.what = 12 then { zMoveR with what := m.what, name := m.name }
  else { zMoveR with what := m.what, no := m.no }
theorem plain_c (Mn : List Nat) (m : MoveR) (a : Option Addr) (cap : Nat) (h : Hp) (hn : IntsAt Mn h a cap m.nos) (hz : m.nos.length < 900000) :
    Call c Tryz.prog 74 #[vMove m a cap] h fun v h' => ∃ a' cap' blk', v = vMove (plainF m) a' cap' ∧ IntsOwn h' a' cap' (plainF m).nos blk' ∧ Chg [] h h' ∧ Fresh h blk' := by
  refine call_ofM layOk 63 Tryz.func74 Tryz.ntmps74 rfl rfl rfl ?_
  refine wp_new ?_
  intro b1 h1 hN1
  refine wp_new ?_
  intro b2 h2 hN2
  have hb1 := hN2.of hN1.here
  refine wp_load (v := .int .i64 m.what) (ld_of hb1 rfl) ?_
  refine wp_new ?_
  intro b3 h3 hN3
  refine wp_store hN3.here (by rfl) ?_
  intro h4 hU4
  have hc02 : Chg [] h h2 := (hN1.chg []).trans (hN2.chg [])
  have hle3 : h.size ≤ b3 := Nat.le_trans hc02.size hN3.le
  have hc4 : Chg [] h h4 := hU4.chgGe (hc02.trans (hN3.chg [])) hle3
  have h13 : b1 ≠ b3 := hN3.ne hb1
  have h23 : b2 ≠ b3 := hN3.ne hN2.here
  have hb14 := hU4.of (hN3.of hb1) h13
  have hb24 := hU4.of (hN3.of hN2.here) h23
  have hD : b1 ∉ [b3] := fun hm => h13 (List.mem_singleton.1 hm)
  have hle2 : h.size ≤ b2 := Nat.le_trans (hN1.chg []).size hN2.le
  have end_ : ∀ (r : MoveR) a' cap' blk' h5, plainF m = r → h5[b3]? = some (.cells (elMove r a' cap').toArray 54 (0, 0)) → Chg [] h h5 → IntsOwn h5 a' cap' r.nos blk' → Fresh h blk' → (∀ g, blk' = some g → g ≠ b2) →
      ∀ h6, Upd h5 h6 b2 (.cells (wrAt [.int .i64 0, .int .i64 0, .slice none 0 0, .int .i64 0, .int .u8 0, .int .u8 0, .int .u8 0, .int .u8 0, .string ⟨#[]⟩, .string ⟨#[]⟩] 0 (vMove r a' cap').cells.toList).toArray 54) →
      h6[b2]? = some (.cells (elMove (plainF m) a' cap').toArray 54 (0, 0)) ∧ ∃ a2 cap2 blk2, tupV [vMove r a' cap'] = vMove (plainF m) a2 cap2 ∧ IntsOwn h6 a2 cap2 (plainF m).nos blk2 ∧ Chg [] h h6 ∧ Fresh h blk2 := by
    intro r a' cap' blk' h5 hr e3 hc ho hf hne h6 hU
    subst hr
    exact ⟨hU.here, a', cap', blk', rfl, ho.wr hU hne, hU.chgGe hc hle2, hf⟩
  refine wp_load (v := .int .i64 m.what) (ld_of hb14 rfl) ?_
  refine wp_br (fun g1 => ?_) (fun g1 => ?_)
  · have e1 : m.what = 1 := by simpa using g1
    refine wp_ordD layOk mixed [b3] [(0, 7)] [5] (by kernel_rfl) ?_
    refine wp_chk hD ?_
    refine wp_load (v := .string m.name) (ld_of hb14 rfl) ?_
    refine wp_chk hD ?_
    refine wp_load (v := .string m.owner) (ld_of hb14 rfl) ?_
    refine wp_chk (by simp) ?_
    refine wp_store hU4.here (by rfl) ?_
    intro h5 hU5
    refine wp_store hU5.here (by rfl) ?_
    intro h6 hU6
    have hr : plainF m = { zMoveR with what := m.what, name := m.name, owner := m.owner } := (by unfold plainF; simp [e1])
    refine wp_load (v := vMove { zMoveR with what := m.what, name := m.name, owner := m.owner } none 0) (ld_of hU6.here rfl) ?_
    refine wp_store (hU6.of (hU5.of hb24 h23) h23) (by rfl) ?_
    intro h9 hU9
    have hh := end_ { zMoveR with what := m.what, name := m.name, owner := m.owner } none 0 none _ hr hU6.here (hU6.chgGe (hU5.chgGe hc4 hle3) hle3) OwnAt.nil .none (fun g hg => by cases hg) h9 hU9
    exact wp_done (finM_at [vMove { zMoveR with what := m.what, name := m.name, owner := m.owner } none 0] rfl ⟨⟨_, _, _, rfl, rfl, ld_of hU9.here rfl⟩, trivial⟩ hh.2)
  · have e1 : m.what ≠ 1 := by simpa using g1
    refine wp_br (fun g2 => ?_) (fun g2 => ?_)
    · have e2 : m.what = 2 := by simpa using g2
      refine wp_ordD layOk mixed [b3] [(0, 11)] [7, 9] (by kernel_rfl) ?_
      refine wp_chk hD ?_
      refine wp_load (v := .int .i64 m.no) (ld_of hb14 rfl) ?_
      refine wp_chk hD ?_
      refine wp_load (v := vKind m.kind) (ld_of hb14 rfl) ?_
      refine wp_chk hD ?_
      refine wp_load (v := .int .i64 m.grams) (ld_of hb14 rfl) ?_
      refine wp_chk (by simp) ?_
      refine wp_store hU4.here (by rfl) ?_
      intro h5 hU5
      refine wp_chk (by simp) ?_
      refine wp_store hU5.here (by rfl) ?_
      intro h6 hU6
      refine wp_store hU6.here (by rfl) ?_
      intro h7 hU7
      have hr : plainF m = { zMoveR with what := m.what, no := m.no, kind := m.kind, grams := m.grams } := (by unfold plainF; simp [e2])
      refine wp_load (v := vMove { zMoveR with what := m.what, no := m.no, kind := m.kind, grams := m.grams } none 0) (ld_of hU7.here rfl) ?_
      refine wp_store (hU7.of (hU6.of (hU5.of hb24 h23) h23) h23) (by rfl) ?_
      intro h9 hU9
      have hh := end_ { zMoveR with what := m.what, no := m.no, kind := m.kind, grams := m.grams } none 0 none _ hr hU7.here (hU7.chgGe (hU6.chgGe (hU5.chgGe hc4 hle3) hle3) hle3) OwnAt.nil .none (fun g hg => by cases hg) h9 hU9
      exact wp_done (finM_at [vMove { zMoveR with what := m.what, no := m.no, kind := m.kind, grams := m.grams } none 0] rfl ⟨⟨_, _, _, rfl, rfl, ld_of hU9.here rfl⟩, trivial⟩ hh.2)
    · have e2 : m.what ≠ 2 := by simpa using g2
      refine wp_br (fun g3 => ?_) (fun g3 => ?_)
      · have ee : m.what = 3 := by simpa using g3
        refine wp_brT g3 ?_
        refine wp_ordD layOk mixed [b3] [(0, 7)] [5] (by kernel_rfl) ?_
        refine wp_chk hD ?_
        refine wp_load (v := .int .i64 m.no) (ld_of hb14 rfl) ?_
        refine wp_chk hD ?_
        refine wp_load (v := .int .i64 m.grams) (ld_of hb14 rfl) ?_
        refine wp_chk (by simp) ?_
        refine wp_store hU4.here (by rfl) ?_
        intro h5 hU5
        refine wp_store hU5.here (by rfl) ?_
        intro h6 hU6
        have hr : plainF m = { zMoveR with what := m.what, no := m.no, grams := m.grams } := (by unfold plainF; simp [ee])
        refine wp_load (v := vMove { zMoveR with what := m.what, no := m.no, grams := m.grams } none 0) (ld_of hU6.here rfl) ?_
        refine wp_store (hU6.of (hU5.of hb24 h23) h23) (by rfl) ?_
        intro h9 hU9
        have hh := end_ { zMoveR with what := m.what, no := m.no, grams := m.grams } none 0 none _ hr hU6.here (hU6.chgGe (hU5.chgGe hc4 hle3) hle3) OwnAt.nil .none (fun g hg => by cases hg) h9 hU9
        exact wp_done (finM_at [vMove { zMoveR with what := m.what, no := m.no, grams := m.grams } none 0] rfl ⟨⟨_, _, _, rfl, rfl, ld_of hU9.here rfl⟩, trivial⟩ hh.2)
      · have e3 : m.what ≠ 3 := by simpa using g3
        refine wp_br (fun g4 => ?_) (fun g4 => ?_)
        · have ee : m.what = 5 := by simpa using g4
          refine wp_brT g4 ?_
          refine wp_ordD layOk mixed [b3] [(0, 7)] [5] (by kernel_rfl) ?_
          refine wp_chk hD ?_
          refine wp_load (v := .int .i64 m.no) (ld_of hb14 rfl) ?_
          refine wp_chk hD ?_
          refine wp_load (v := .int .i64 m.grams) (ld_of hb14 rfl) ?_
          refine wp_chk (by simp) ?_
          refine wp_store hU4.here (by rfl) ?_
          intro h5 hU5
          refine wp_store hU5.here (by rfl) ?_
          intro h6 hU6
          have hr : plainF m = { zMoveR with what := m.what, no := m.no, grams := m.grams } := (by unfold plainF; simp [ee])
          refine wp_load (v := vMove { zMoveR with what := m.what, no := m.no, grams := m.grams } none 0) (ld_of hU6.here rfl) ?_
          refine wp_store (hU6.of (hU5.of hb24 h23) h23) (by rfl) ?_
          intro h9 hU9
          have hh := end_ { zMoveR with what := m.what, no := m.no, grams := m.grams } none 0 none _ hr hU6.here (hU6.chgGe (hU5.chgGe hc4 hle3) hle3) OwnAt.nil .none (fun g hg => by cases hg) h9 hU9
          exact wp_done (finM_at [vMove { zMoveR with what := m.what, no := m.no, grams := m.grams } none 0] rfl ⟨⟨_, _, _, rfl, rfl, ld_of hU9.here rfl⟩, trivial⟩ hh.2)
        · have e4 : m.what ≠ 5 := by simpa using g4
          refine wp_br (fun g5 => ?_) (fun g5 => ?_)
          · have ee : m.what = 6 := by simpa using g5
            refine wp_ordD layOk mixed [b3] [(0, 7)] [5] (by kernel_rfl) ?_
            refine wp_chk hD ?_
            refine wp_load (v := .int .i64 m.no) (ld_of hb14 rfl) ?_
            refine wp_chk hD ?_
            refine wp_load (v := .int .i64 m.grams) (ld_of hb14 rfl) ?_
            refine wp_chk (by simp) ?_
            refine wp_store hU4.here (by rfl) ?_
            intro h5 hU5
            refine wp_store hU5.here (by rfl) ?_
            intro h6 hU6
            have hr : plainF m = { zMoveR with what := m.what, no := m.no, grams := m.grams } := (by unfold plainF; simp [ee])
            refine wp_load (v := vMove { zMoveR with what := m.what, no := m.no, grams := m.grams } none 0) (ld_of hU6.here rfl) ?_
            refine wp_store (hU6.of (hU5.of hb24 h23) h23) (by rfl) ?_
            intro h9 hU9
            have hh := end_ { zMoveR with what := m.what, no := m.no, grams := m.grams } none 0 none _ hr hU6.here (hU6.chgGe (hU5.chgGe hc4 hle3) hle3) OwnAt.nil .none (fun g hg => by cases hg) h9 hU9
            exact wp_done (finM_at [vMove { zMoveR with what := m.what, no := m.no, grams := m.grams } none 0] rfl ⟨⟨_, _, _, rfl, rfl, ld_of hU9.here rfl⟩, trivial⟩ hh.2)
          · have e5 : m.what ≠ 6 := by simpa using g5
            refine wp_br (fun g6 => ?_) (fun g6 => ?_)
            · have e6 : m.what = 4 := by simpa using g6
              refine wp_load (v := .slice a m.nos.length cap) (ld_of hb14 rfl) ?_
              refine wp_call (clone66_c Mn m.nos a cap h4 (hn.ext hc4) hz) ?_
              rintro _ h5 ⟨a5, cap5, blk5, rfl, ho5, hc5, hf5⟩
              have hb5 := hc5.of hU4.here (by simp)
              have hb25 := hc5.of hb24 (by simp)
              have hl3 := (Array.getElem?_eq_some_iff.1 hU4.here).1
              have hl2 := (Array.getElem?_eq_some_iff.1 hb24).1
              refine wp_store hb5 (by rfl) ?_
              intro h6 hU6
              have hr : plainF m = { zMoveR with what := m.what, nos := m.nos } := (by unfold plainF; simp [e6])
              refine wp_load (v := vMove { zMoveR with what := m.what, nos := m.nos } a5 cap5) (ld_of hU6.here rfl) ?_
              refine wp_store (hU6.of hb25 h23) (by rfl) ?_
              intro h9 hU9
              have hh := end_ { zMoveR with what := m.what, nos := m.nos } a5 cap5 blk5 _ hr hU6.here (hU6.chgGe (hc4.trans hc5) hle3) (ho5.wr hU6 (fun g hg => by have := hf5 g hg; omega)) (hf5.back hc4.size) (fun g hg => by have := hf5 g hg; omega) h9 hU9
              exact wp_done (finM_at [vMove { zMoveR with what := m.what, nos := m.nos } a5 cap5] rfl ⟨⟨_, _, _, rfl, rfl, ld_of hU9.here rfl⟩, trivial⟩ hh.2)
            · have e6 : m.what ≠ 4 := by simpa using g6
              refine wp_br (fun g7 => ?_) (fun g7 => ?_)
              · have e7 : m.what = 10 := by simpa using g7
                refine wp_ord layOk mixed [(0, 3), (5, 5), (4, 4), (6, 8)] [4] (by kernel_rfl) ?_
                refine wp_load (v := .string m.name) (ld_of hb14 rfl) ?_
                refine wp_load (v := .slice a m.nos.length cap) (ld_of hb14 rfl) ?_
                refine wp_callE (clone66_c Mn m.nos a cap h4 (hn.ext hc4) hz) ?_
                rintro _ h5 ⟨a5, cap5, blk5, rfl, ho5, hc5, hf5⟩
                refine ⟨hc5, ?_⟩
                have hb5 := hc5.of hU4.here (by simp)
                have hb25 := hc5.of hb24 (by simp)
                have hl3 := (Array.getElem?_eq_some_iff.1 hU4.here).1
                have hl2 := (Array.getElem?_eq_some_iff.1 hb24).1
                refine wp_store hb5 (by rfl) ?_
                intro h6 hU6
                refine wp_store hU6.here (by rfl) ?_
                intro h7 hU7
                have hr : plainF m = { zMoveR with what := m.what, name := m.name, nos := m.nos } := (by unfold plainF; simp [e7])
                refine wp_load (v := vMove { zMoveR with what := m.what, name := m.name, nos := m.nos } a5 cap5) (ld_of hU7.here rfl) ?_
                refine wp_store (hU7.of (hU6.of hb25 h23) h23) (by rfl) ?_
                intro h9 hU9
                have hh := end_ { zMoveR with what := m.what, name := m.name, nos := m.nos } a5 cap5 blk5 _ hr hU7.here (hU7.chgGe (hU6.chgGe (hc4.trans hc5) hle3) hle3) ((ho5.wr hU6 (fun g hg => by have := hf5 g hg; omega)).wr hU7 (fun g hg => by have := hf5 g hg; omega)) (hf5.back hc4.size) (fun g hg => by have := hf5 g hg; omega) h9 hU9
                exact wp_done (finM_at [vMove { zMoveR with what := m.what, name := m.name, nos := m.nos } a5 cap5] rfl ⟨⟨_, _, _, rfl, rfl, ld_of hU9.here rfl⟩, trivial⟩ hh.2)
              · have e7 : m.what ≠ 10 := by simpa using g7
                refine wp_br (fun g8 => ?_) (fun g8 => ?_)
                · have ee : m.what = 11 := by simpa using g8
                  refine wp_brT g8 ?_
                  refine wp_load (v := .string m.name) (ld_of hb14 rfl) ?_
                  refine wp_store hU4.here (by rfl) ?_
                  intro h5 hU5
                  have hr : plainF m = { zMoveR with what := m.what, name := m.name } := (by unfold plainF; simp [ee])
                  refine wp_load (v := vMove { zMoveR with what := m.what, name := m.name } none 0) (ld_of hU5.here rfl) ?_
                  refine wp_store (hU5.of hb24 h23) (by rfl) ?_
                  intro h9 hU9
                  have hh := end_ { zMoveR with what := m.what, name := m.name } none 0 none _ hr hU5.here (hU5.chgGe hc4 hle3) OwnAt.nil .none (fun g hg => by cases hg) h9 hU9
                  exact wp_done (finM_at [vMove { zMoveR with what := m.what, name := m.name } none 0] rfl ⟨⟨_, _, _, rfl, rfl, ld_of hU9.here rfl⟩, trivial⟩ hh.2)
                · have e8 : m.what ≠ 11 := by simpa using g8
                  refine wp_br (fun g9 => ?_) (fun g9 => ?_)
                  · have ee : m.what = 12 := by simpa using g9
                    refine wp_load (v := .string m.name) (ld_of hb14 rfl) ?_
                    refine wp_store hU4.here (by rfl) ?_
                    intro h5 hU5
                    have hr : plainF m = { zMoveR with what := m.what, name := m.name } := (by unfold plainF; simp [ee])
                    refine wp_load (v := vMove { zMoveR with what := m.what, name := m.name } none 0) (ld_of hU5.here rfl) ?_
                    refine wp_store (hU5.of hb24 h23) (by rfl) ?_
                    intro h9 hU9
                    have hh := end_ { zMoveR with what := m.what, name := m.name } none 0 none _ hr hU5.here (hU5.chgGe hc4 hle3) OwnAt.nil .none (fun g hg => by cases hg) h9 hU9
                    exact wp_done (finM_at [vMove { zMoveR with what := m.what, name := m.name } none 0] rfl ⟨⟨_, _, _, rfl, rfl, ld_of hU9.here rfl⟩, trivial⟩ hh.2)
                  · have e9 : m.what ≠ 12 := by simpa using g9
                    refine wp_load (v := .int .i64 m.no) (ld_of hb14 rfl) ?_
                    refine wp_store hU4.here (by rfl) ?_
                    intro h5 hU5
                    have hr : plainF m = { zMoveR with what := m.what, no := m.no } := (by unfold plainF; simp [e1, e2, e3, e4, e5, e6, e7, e8, e9])
                    refine wp_load (v := vMove { zMoveR with what := m.what, no := m.no } none 0) (ld_of hU5.here rfl) ?_
                    refine wp_store (hU5.of hb24 h23) (by rfl) ?_
                    intro h9 hU9
                    have hh := end_ { zMoveR with what := m.what, no := m.no } none 0 none _ hr hU5.here (hU5.chgGe hc4 hle3) OwnAt.nil .none (fun g hg => by cases hg) h9 hU9
                    exact wp_done (finM_at [vMove { zMoveR with what := m.what, no := m.no } none 0] rfl ⟨⟨_, _, _, rfl, rfl, ld_of hU9.here rfl⟩, trivial⟩ hh.2)
end Go.Xe
namespace Go.Xe
open Go Go.Proofs
set_option maxRecDepth 20000
variable {c : World}
theorem enSt : EncOk ti112 elSt := ⟨fun _ => rfl, by decide, rfl, fun x u hu => by
  simp only [elSt, List.mem_cons, List.not_mem_nil, or_false] at hu
  rcases hu with rfl | rfl | rfl | rfl | rfl <;> rfl, by decide⟩
abbrev MovP := MoveR × Option Addr × Nat
def encMv (x : MovP) : List Value := elMove x.1 x.2.1 x.2.2
theorem enMv : EncOk ti54 encMv := ⟨fun _ => rfl, by decide, rfl, fun x u hu => by
  simp only [encMv, elMove, List.mem_cons, List.not_mem_nil, or_false] at hu
  rcases hu with rfl | rfl | rfl | rfl | rfl | rfl | rfl | rfl | rfl | rfl <;> rfl, by decide⟩
abbrev StsOwn (h : Hp) (a : Option Addr) (cap : Nat) (l : List StP) (blk : Option Nat) := OwnAt 112 5 elSt h a cap l blk
abbrev MvsOwn (h : Hp) (a : Option Addr) (cap : Nat) (l : List MovP) (blk : Option Nat) := OwnAt 54 10 encMv h a cap l blk
structure StoreR where
  states : List StateR
  moves : List MoveR
  now : Nat
/-- the parts of a store -/
structure StoP where
  ps : List StP
  qs : List MovP
  aS : Option Addr
  cS : Nat
  bS : Option Nat
  aM : Option Addr
  cM : Nat
  bM : Option Nat
def StoP.foot (x : StoP) (st : Nat) : List Nat := st :: (x.bS.toList ++ x.bM.toList)
def elSto (x : StoP) (now : Nat) : List Value := [.slice x.aS x.ps.length x.cS, .slice x.aM x.qs.length x.cM, .int .i64 now]
def StsOk (M : List Nat) (h : Hp) (ps : List StP) (σs : List StateR) : Prop := ps.length = σs.length ∧ ∀ (i : Nat) p σ, ps[i]? = some p → σs[i]? = some σ → StOk M h p σ
def MvsOk (M : List Nat) (h : Hp) (qs : List MovP) (ms : List MoveR) : Prop := qs.map (·.1) = ms ∧ ∀ q, q ∈ qs → IntsAt M h q.2.1 q.2.2 q.1.nos ∧ q.1.nos.length < 1000
structure StoreAt (x : StoP) (M : List Nat) (h : Hp) (st : Nat) (S : StoreR) : Prop where
  blk : h[st]? = some (.cells (elSto x S.now).toArray 95 (0, 0))
  sts : StsOwn h x.aS x.cS x.ps x.bS
  mvs : MvsOwn h x.aM x.cM x.qs x.bM
  stsOk : StsOk M h x.ps S.states
  mvsOk : MvsOk M h x.qs S.moves
  foot : ∀ k, k ∈ x.foot st → k ∈ M
  now : S.now < S.states.length
  len : S.moves.length + 1 = S.states.length
  few : S.states.length < 800000
section
variable {M M' : List Nat} {h h' : Hp} {x : StoP} {st : Nat} {S : StoreR}
theorem StsOk.chg {ps : List StP} {σs : List StateR} (c : Chg M' h h') (hm : ∀ m, m ∈ M' → m ∈ M) (y : StsOk M h ps σs) : StsOk M h' ps σs := ⟨y.1, fun i p σ h1 h2 => (y.2 i p σ h1 h2).chg c hm⟩
theorem StsOk.sub {ps : List StP} {σs : List StateR} (hm : ∀ m, m ∈ M' → m ∈ M) (y : StsOk M h ps σs) : StsOk M' h ps σs := ⟨y.1, fun i p σ h1 h2 => (y.2 i p σ h1 h2).sub hm⟩
theorem StsOk.push {ps : List StP} {σs : List StateR} {b : Nat} (hb : h.size ≤ b) (y : StsOk M h ps σs) : StsOk (b :: M) h ps σs := ⟨y.1, fun i p σ h1 h2 => (y.2 i p σ h1 h2).push hb⟩
theorem MvsOk.chg {qs : List MovP} {ms : List MoveR} (c : Chg M' h h') (hm : ∀ m, m ∈ M' → m ∈ M) (y : MvsOk M h qs ms) : MvsOk M h' qs ms := ⟨y.1, fun q hq => ⟨(y.2 q hq).1.chg c hm, (y.2 q hq).2⟩⟩
theorem MvsOk.sub {qs : List MovP} {ms : List MoveR} (hm : ∀ m, m ∈ M' → m ∈ M) (y : MvsOk M h qs ms) : MvsOk M' h qs ms := ⟨y.1, fun q hq => ⟨(y.2 q hq).1.sub hm, (y.2 q hq).2⟩⟩
theorem MvsOk.push {qs : List MovP} {ms : List MoveR} {b : Nat} (hb : h.size ≤ b) (y : MvsOk M h qs ms) : MvsOk (b :: M) h qs ms := ⟨y.1, fun q hq => ⟨(y.2 q hq).1.push hb, (y.2 q hq).2⟩⟩
theorem StoP.mem_S (x : StoP) (st : Nat) {g : Nat} (hg : x.bS = some g) : g ∈ x.foot st := by simp [StoP.foot, hg]
theorem StoP.mem_M (x : StoP) (st : Nat) {g : Nat} (hg : x.bM = some g) : g ∈ x.foot st := by simp [StoP.foot, hg]
theorem StoP.mem_st (x : StoP) (st : Nat) : st ∈ x.foot st := by simp [StoP.foot]
/-- a store that is not touched -/
theorem StoreAt.chg (c : Chg M' h h') (hm : ∀ m, m ∈ M' → m ∈ M) (hd : ∀ k, k ∈ x.foot st → k ∉ M') (y : StoreAt x M h st S) : StoreAt x M h' st S :=
  ⟨c.of y.blk (hd _ (x.mem_st st)), y.sts.chg c (fun g hg => hd g (x.mem_S st hg)), y.mvs.chg c (fun g hg => hd g (x.mem_M st hg)), y.stsOk.chg c hm, y.mvsOk.chg c hm, y.foot, y.now, y.len, y.few⟩
theorem StoreAt.ext (c : Chg [] h h') (y : StoreAt x M h st S) : StoreAt x M h' st S := y.chg c (by simp) (by simp)
theorem StoreAt.push {b : Nat} (hb : h.size ≤ b) (y : StoreAt x M h st S) : StoreAt x (b :: M) h st S :=
  ⟨y.blk, y.sts, y.mvs, y.stsOk.push hb, y.mvsOk.push hb, fun k hk => List.mem_cons_of_mem _ (y.foot k hk), y.now, y.len, y.few⟩
theorem StoreAt.sub (hm : ∀ m, m ∈ M' → m ∈ M) (hf : ∀ k, k ∈ x.foot st → k ∈ M') (y : StoreAt x M h st S) : StoreAt x M' h st S :=
  ⟨y.blk, y.sts, y.mvs, y.stsOk.sub hm, y.mvsOk.sub hm, hf, y.now, y.len, y.few⟩
theorem OwnAt.take {α : Type} {e sz : Nat} {enc : α → List Value} {a : Option Addr} {cap : Nat} {l : List α} {blk : Option Nat} (henc : ∀ x, (enc x).length = sz) (y : OwnAt e sz enc h a cap l blk) (j : Nat) : OwnAt e sz enc h a cap (l.take j) blk := by
  rcases y with ⟨h1, h2, rfl, h4⟩ | ⟨g, cs, h1, h2, h3, h4, h5, h6, h7⟩
  · exact .inl ⟨h1, h2, by simp, h4⟩
  · refine .inr ⟨g, cs, h1, h2, h3, Nat.le_trans (by rw [List.length_take]; exact Nat.min_le_right _ _) h4, h5, h6, ?_⟩
    have e1 : l.flatMap enc = (l.take j).flatMap enc ++ (l.drop j).flatMap enc := by rw [← List.flatMap_append, List.take_append_drop]
    have hl := flat_len henc (l.take j)
    have hle : (l.take j).length * sz ≤ l.length * sz := Nat.mul_le_mul_right _ (by rw [List.length_take]; exact Nat.min_le_right _ _)
    rw [← Nat.min_eq_left hle, ← List.take_take, h7, e1, ← hl]
    exact List.take_left
theorem OwnAt.len_cap {α : Type} {e sz : Nat} {enc : α → List Value} {a : Option Addr} {cap : Nat} {l : List α} {blk : Option Nat} (y : OwnAt e sz enc h a cap l blk) : l.length ≤ cap := by
  rcases y with ⟨_, h2, rfl, _⟩ | ⟨g, cs, h1, h2, h3, h4, _⟩
  · simp
  · exact h4
end
theorem madeN_c (h : Hp) : Call c Tryz.prog 71 #[.pointer none] h fun v h' => v = .bool false ∧ h' = h := by
  refine call_of layOk 13 Tryz.func71 Tryz.ntmps71 rfl rfl rfl rfl ?_
  repeat (first | refine wp_brT rfl ?_ | refine wp_brF rfl ?_)
  exact wp_done ⟨rfl, rfl, rfl⟩
theorem madeZ_c (h : Hp) (st : Nat) (hb : h[st]? = some (.cells #[.slice none 0 0, .slice none 0 0, .int .i64 0] 95 (0, 0))) : Call c Tryz.prog 71 #[.pointer (some ⟨st, 0, none⟩)] h fun v h' => v = .bool false ∧ h' = h := by
  refine call_of layOk 13 Tryz.func71 Tryz.ntmps71 rfl rfl rfl rfl ?_
  repeat (first | refine wp_brT rfl ?_ | refine wp_brF rfl ?_)
  refine wp_load (ld_of hb rfl) ?_
  repeat (first | refine wp_brT rfl ?_ | refine wp_brF rfl ?_)
  exact wp_done ⟨rfl, rfl, rfl⟩
theorem made_t {x : StoP} {M : List Nat} {h : Hp} {st : Nat} {S : StoreR} (y : StoreAt x M h st S) : Call c Tryz.prog 71 #[.pointer (some ⟨st, 0, none⟩)] h fun v h' => v = .bool true ∧ h' = h := by
  have hl : (decide ((x.ps.length : Int) > 0)) = true := by
    have := y.stsOk.1
    have := y.now
    exact decide_eq_true (by omega)
  refine call_of layOk 13 Tryz.func71 Tryz.ntmps71 rfl rfl rfl rfl ?_
  repeat (first | refine wp_brT rfl ?_ | refine wp_brF rfl ?_)
  refine wp_load (ld_of y.blk rfl) ?_
  repeat (first | refine wp_brT rfl ?_ | refine wp_brF rfl ?_)
  exact wp_done ⟨rfl, congrArg Value.bool hl, rfl⟩
theorem new_c (M : List Nat) (h : Hp) (hM : Bd M h) : Call c Tryz.prog 23 #[] h fun v h' => ∃ st x, v = .pointer (some ⟨st, 0, none⟩) ∧ StoreAt x (x.foot st ++ M) h' st ⟨[⟨[], [], [], [], []⟩], [], 0⟩ ∧ Bd (x.foot st ++ M) h' ∧ Chg [] h h' ∧ (∀ k, k ∈ x.foot st → h.size ≤ k) := by
  refine call_of layOk 4 Tryz.func23 Tryz.ntmps23 rfl rfl rfl rfl ?_
  refine wp_make layOk (t := 93) rfl rfl rfl (enc := elSt) (⟨none, none, none, none, none⟩ : StP) rfl (fun _ => rfl) (by decide) (m := 1) (by decide) ?_
  intro b h1 cs hN ho
  refine wp_new ?_
  intro st h2 hN2
  have hc : Chg [] h h2 := (hN.chg []).trans (hN2.chg [])
  have hs1 := hN.size
  have hs2 := hN2.size
  have hl1 := hN.le
  have hl2 := hN2.le
  refine wp_done ⟨rfl, st, ⟨[⟨none, none, none, none, none⟩], [], some ⟨b, 0, none⟩, 1, some b, none, 0, none⟩, rfl, ⟨hN2.here, ho.ext (hN2.chg []), OwnAt.nil, ⟨rfl, ?_⟩, ⟨rfl, fun q hq => by cases hq⟩, fun k hk => List.mem_append_left _ hk, Nat.lt_succ_self _, rfl, by decide⟩, ?_, hc, ?_⟩
  · intro i p σ h3 h4
    cases i with
    | zero =>
      cases h3
      cases h4
      exact .zero
    | succ i => simp at h3
  · intro k hk
    rcases List.mem_append.1 hk with hk | hk
    · simp [StoP.foot] at hk
      omega
    · have := hM k hk
      omega
  · intro k hk
    simp [StoP.foot] at hk
    omega
end Go.Xe
