/- A store in memory. -/
import Derived.Test.YtebbgoklldmkiaaGreatQ37
import Derived.Test.YtebbgoklldmkiaaGreatQ39
namespace Go.Xe
open Go Go.Proofs
set_option maxRecDepth 20000
variable {c : World}
theorem enSt : EncOk ti112 elSt := ⟨fun _ => rfl, by decide, rfl, fun x u hu => by
  simp only [elSt, List.mem_cons, List.not_mem_nil, or_false] at hu
  rcases hu with rfl | rfl | rfl | rfl | rfl <;> rfl, by decide⟩
abbrev MovP := MoveR × Option Addr × Nat
def encMv (x : MovP) : List Value := elMove x.1 x.2.1 x.2.2
theorem enMv : EncOk ti54 encMv := ⟨fun _ => rfl, by decide, rfl, fun x u hu => by
  simp only [encMv, elMove, List.mem_cons, List.not_mem_nil, or_false] at hu
  rcases hu with rfl | rfl | rfl | rfl | rfl | rfl | rfl | rfl | rfl | rfl <;> rfl, by decide⟩
abbrev StsOwn (h : Hp) (a : Option Addr) (cap : Nat) (l : List StP) (blk : Option Nat) := OwnAt 112 5 elSt h a cap l blk
abbrev MvsOwn (h : Hp) (a : Option Addr) (cap : Nat) (l : List MovP) (blk : Option Nat) := OwnAt 54 10 encMv h a cap l blk
structure StoreR where
  states : List StateR
  moves : List MoveR
  now : Nat
/-- the parts of a store -/
structure StoP where
  ps : List StP
  qs : List MovP
  aS : Option Addr
  cS : Nat
  bS : Option Nat
  aM : Option Addr
  cM : Nat
  bM : Option Nat
def StoP.foot (x : StoP) (st : Nat) : List Nat := st :: (x.bS.toList ++ x.bM.toList)
def elSto (x : StoP) (now : Nat) : List Value := [.slice x.aS x.ps.length x.cS, .slice x.aM x.qs.length x.cM, .int .i64 now]
def StsOk (M : List Nat) (h : Hp) (ps : List StP) (σs : List StateR) : Prop := ps.length = σs.length ∧ ∀ (i : Nat) p σ, ps[i]? = some p → σs[i]? = some σ → StOk M h p σ
def MvsOk (M : List Nat) (h : Hp) (qs : List MovP) (ms : List MoveR) : Prop := qs.map (·.1) = ms ∧ ∀ q, q ∈ qs → IntsAt M h q.2.1 q.2.2 q.1.nos ∧ q.1.nos.length < 1000
structure StoreAt (x : StoP) (M : List Nat) (h : Hp) (st : Nat) (S : StoreR) : Prop where
  blk : h[st]? = some (.cells (elSto x S.now).toArray 95 (0, 0))
  sts : StsOwn h x.aS x.cS x.ps x.bS
  mvs : MvsOwn h x.aM x.cM x.qs x.bM
  stsOk : StsOk M h x.ps S.states
  mvsOk : MvsOk M h x.qs S.moves
  foot : ∀ k, k ∈ x.foot st → k ∈ M
  now : S.now < S.states.length
  len : S.moves.length + 1 = S.states.length
  few : S.states.length < 800000
section
variable {M M' : List Nat} {h h' : Hp} {x : StoP} {st : Nat} {S : StoreR}
theorem StsOk.chg {ps : List StP} {σs : List StateR} (c : Chg M' h h') (hm : ∀ m, m ∈ M' → m ∈ M) (y : StsOk M h ps σs) : StsOk M h' ps σs := ⟨y.1, fun i p σ h1 h2 => (y.2 i p σ h1 h2).chg c hm⟩
theorem StsOk.sub {ps : List StP} {σs : List StateR} (hm : ∀ m, m ∈ M' → m ∈ M) (y : StsOk M h ps σs) : StsOk M' h ps σs := ⟨y.1, fun i p σ h1 h2 => (y.2 i p σ h1 h2).sub hm⟩
theorem StsOk.push {ps : List StP} {σs : List StateR} {b : Nat} (hb : h.size ≤ b) (y : StsOk M h ps σs) : StsOk (b :: M) h ps σs := ⟨y.1, fun i p σ h1 h2 => (y.2 i p σ h1 h2).push hb⟩
theorem MvsOk.chg {qs : List MovP} {ms : List MoveR} (c : Chg M' h h') (hm : ∀ m, m ∈ M' → m ∈ M) (y : MvsOk M h qs ms) : MvsOk M h' qs ms := ⟨y.1, fun q hq => ⟨(y.2 q hq).1.chg c hm, (y.2 q hq).2⟩⟩
theorem MvsOk.sub {qs : List MovP} {ms : List MoveR} (hm : ∀ m, m ∈ M' → m ∈ M) (y : MvsOk M h qs ms) : MvsOk M' h qs ms := ⟨y.1, fun q hq => ⟨(y.2 q hq).1.sub hm, (y.2 q hq).2⟩⟩
theorem MvsOk.push {qs : List MovP} {ms : List MoveR} {b : Nat} (hb : h.size ≤ b) (y : MvsOk M h qs ms) : MvsOk (b :: M) h qs ms := ⟨y.1, fun q hq => ⟨(y.2 q hq).1.push hb, (y.2 q hq).2⟩⟩
theorem StoP.mem_S (x : StoP) (st : Nat) {g : Nat} (hg : x.bS = some g) : g ∈ x.foot st := by simp [StoP.foot, hg]
theorem StoP.mem_M (x : StoP) (st : Nat) {g : Nat} (hg : x.bM = some g) : g ∈ x.foot st := by simp [StoP.foot, hg]
theorem StoP.mem_st (x : StoP) (st : Nat) : st ∈ x.foot st := by simp [StoP.foot]
/-- a store that is not touched -/
theorem StoreAt.chg (c : Chg M' h h') (hm : ∀ m, m ∈ M' → m ∈ M) (hd : ∀ k, k ∈ x.foot st → k ∉ M') (y : StoreAt x M h st S) : StoreAt x M h' st S :=
  ⟨c.of y.blk (hd _ (x.mem_st st)), y.sts.chg c (fun g hg => hd g (x.mem_S st hg)), y.mvs.chg c (fun g hg => hd g (x.mem_M st hg)), y.stsOk.chg c hm, y.mvsOk.chg c hm, y.foot, y.now, y.len, y.few⟩
theorem StoreAt.ext (c : Chg [] h h') (y : StoreAt x M h st S) : StoreAt x M h' st S := y.chg c (by simp) (by simp)
theorem StoreAt.push {b : Nat} (hb : h.size ≤ b) (y : StoreAt x M h st S) : StoreAt x (b :: M) h st S :=
  ⟨y.blk, y.sts, y.mvs, y.stsOk.push hb, y.mvsOk.push hb, fun k hk => List.mem_cons_of_mem _ (y.foot k hk), y.now, y.len, y.few⟩
theorem StoreAt.sub (hm : ∀ m, m ∈ M' → m ∈ M) (hf : ∀ k, k ∈ x.foot st → k ∈ M') (y : StoreAt x M h st S) : StoreAt x M' h st S :=
  ⟨y.blk, y.sts, y.mvs, y.stsOk.sub hm, y.mvsOk.sub hm, hf, y.now, y.len, y.few⟩
theorem OwnAt.take {α : Type} {e sz : Nat} {enc : α → List Value} {a : Option Addr} {cap : Nat} {l : List α} {blk : Option Nat} (henc : ∀ x, (enc x).length = sz) (y : OwnAt e sz enc h a cap l blk) (j : Nat) : OwnAt e sz enc h a cap (l.take j) blk := by
  rcases y with ⟨h1, h2, rfl, h4⟩ | ⟨g, cs, h1, h2, h3, h4, h5, h6, h7⟩
  · exact .inl ⟨h1, h2, by simp, h4⟩
  · refine .inr ⟨g, cs, h1, h2, h3, Nat.le_trans (by rw [List.length_take]; exact Nat.min_le_right _ _) h4, h5, h6, ?_⟩
    have e1 : l.flatMap enc = (l.take j).flatMap enc ++ (l.drop j).flatMap enc := by rw [← List.flatMap_append, List.take_append_drop]
    have hl := flat_len henc (l.take j)
    have hle : (l.take j).length * sz ≤ l.length * sz := Nat.mul_le_mul_right _ (by rw [List.length_take]; exact Nat.min_le_right _ _)
    rw [← Nat.min_eq_left hle, ← List.take_take, h7, e1, ← hl]
    exact List.take_left
theorem OwnAt.len_cap {α : Type} {e sz : Nat} {enc : α → List Value} {a : Option Addr} {cap : Nat} {l : List α} {blk : Option Nat} (y : OwnAt e sz enc h a cap l blk) : l.length ≤ cap := by
  rcases y with ⟨_, h2, rfl, _⟩ | ⟨g, cs, h1, h2, h3, h4, _⟩
  · simp
  · exact h4
end
theorem madeN_c (h : Hp) : Call c Tryz.prog 71 #[.pointer none] h fun v h' => v = .bool false ∧ h' = h := by
  refine call_of layOk 13 Tryz.func71 Tryz.ntmps71 rfl rfl rfl rfl ?_
  repeat (first | refine wp_brT rfl ?_ | refine wp_brF rfl ?_)
  exact wp_done ⟨rfl, rfl, rfl⟩
theorem madeZ_c (h : Hp) (st : Nat) (hb : h[st]? = some (.cells #[.slice none 0 0, .slice none 0 0, .int .i64 0] 95 (0, 0))) : Call c Tryz.prog 71 #[.pointer (some ⟨st, 0, none⟩)] h fun v h' => v = .bool false ∧ h' = h := by
  refine call_of layOk 13 Tryz.func71 Tryz.ntmps71 rfl rfl rfl rfl ?_
  repeat (first | refine wp_brT rfl ?_ | refine wp_brF rfl ?_)
  refine wp_load (ld_of hb rfl) ?_
  repeat (first | refine wp_brT rfl ?_ | refine wp_brF rfl ?_)
  exact wp_done ⟨rfl, rfl, rfl⟩
theorem made_t {x : StoP} {M : List Nat} {h : Hp} {st : Nat} {S : StoreR} (y : StoreAt x M h st S) : Call c Tryz.prog 71 #[.pointer (some ⟨st, 0, none⟩)] h fun v h' => v = .bool true ∧ h' = h := by
  have hl : (decide ((x.ps.length : Int) > 0)) = true := by
    have := y.stsOk.1
    have := y.now
    exact decide_eq_true (by omega)
  refine call_of layOk 13 Tryz.func71 Tryz.ntmps71 rfl rfl rfl rfl ?_
  repeat (first | refine wp_brT rfl ?_ | refine wp_brF rfl ?_)
  refine wp_load (ld_of y.blk rfl) ?_
  repeat (first | refine wp_brT rfl ?_ | refine wp_brF rfl ?_)
  exact wp_done ⟨rfl, congrArg Value.bool hl, rfl⟩
theorem new_c (M : List Nat) (h : Hp) (hM : Bd M h) : Call c Tryz.prog 23 #[] h fun v h' => ∃ st x, v = .pointer (some ⟨st, 0, none⟩) ∧ StoreAt x (x.foot st ++ M) h' st ⟨[⟨[], [], [], [], []⟩], [], 0⟩ ∧ Bd (x.foot st ++ M) h' ∧ Chg [] h h' ∧ (∀ k, k ∈ x.foot st → h.size ≤ k) := by
  refine call_of layOk 4 Tryz.func23 Tryz.ntmps23 rfl rfl rfl rfl ?_
  refine wp_make layOk (t := 93) rfl rfl rfl (enc := elSt) (⟨none, none, none, none, none⟩ : StP) rfl (fun _ => rfl) (by decide) (m := 1) (by decide) ?_
  intro b h1 cs hN ho
  refine wp_new ?_
  intro st h2 hN2
  have hc : Chg [] h h2 := (hN.chg []).trans (hN2.chg [])
  have hs1 := hN.size
  have hs2 := hN2.size
  have hl1 := hN.le
  have hl2 := hN2.le
  refine wp_done ⟨rfl, st, ⟨[⟨none, none, none, none, none⟩], [], some ⟨b, 0, none⟩, 1, some b, none, 0, none⟩, rfl, ⟨hN2.here, ho.ext (hN2.chg []), OwnAt.nil, ⟨rfl, ?_⟩, ⟨rfl, fun q hq => by cases hq⟩, fun k hk => List.mem_append_left _ hk, Nat.lt_succ_self _, rfl, by decide⟩, ?_, hc, ?_⟩
  · intro i p σ h3 h4
    cases i with
    | zero =>
      cases h3
      cases h4
      exact .zero
    | succ i => simp at h3
  · intro k hk
    rcases List.mem_append.1 hk with hk | hk
    · simp [StoP.foot] at hk
      omega
    · have := hM k hk
      omega
  · intro k hk
    simp [StoP.foot] at hk
    omega
end Go.Xe
