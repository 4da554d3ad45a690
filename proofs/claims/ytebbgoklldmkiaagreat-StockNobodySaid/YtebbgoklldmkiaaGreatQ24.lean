/- Lemmas on the way: The walks of Map's methods at TI, by the list of the pairs. A state of the store in memory. The small methods of a state. -/
import Derived.Test.YtebbgoklldmkiaaGreatQ12
import Derived.Test.YtebbgoklldmkiaaGreatQ23
import Derived.Test.YtebbgoklldmkiaaGreatQ18
import Derived.Test.YtebbgoklldmkiaaGreatQ20
import Derived.Test.YtebbgoklldmkiaaGreatQ21
import Derived.Test.YtebbgoklldmkiaaGreatQ22
namespace Go.Xe.TI
open Go Go.Proofs
set_option maxRecDepth 20000
variable {c : World}
abbrev Mp (M : List Nat) (h : Hp) := MapAt (K := Int) (V := TotR) 269 ekI elTot ltI M h
def toldV : Tr Int TotR → Value
  | .leaf => .tuple #[Value.int .i64 0, zTot, .bool false]
  | .node _ k v _ => .tuple #[.int .i64 k, vTot v, .bool true]
theorem told_c (M) (t : Tr Int TotR) (p : Option Addr) (h : Hp) (ht : At M h t p) : Call c Tryz.prog 138 #[.pointer p] h fun v h' => v = toldV t ∧ Chg [] h h' := by
  refine call_ofM layOk 17 Tryz.func138 Tryz.ntmps138 rfl rfl rfl ?_
  refine wp_new ?_
  intro bv h1 hN1
  have hc1 := hN1.chg []
  have ht := ht.ext hc1
  cases t with
  | leaf =>
    obtain rfl := ht
    refine wp_brT rfl ?_
    refine wp_ord layOk mixed [(0, 4)] [] (by kernel_rfl) ?_
    refine wp_load (ld_of hN1.here rfl) ?_
    refine wp_store hN1.here (by rfl) ?_
    intro h2 hU
    exact wp_done (finM_at [_, _, _] rfl ⟨rfl, ⟨_, _, _, rfl, rfl, ld_of hU.here rfl⟩, rfl, trivial⟩ ⟨rfl, hU.chgGe hc1 hN1.le⟩)
  | node l k v r =>
    obtain ⟨b, pl, pr, rfl, hS, hb, hl, hr⟩ := ht
    refine wp_brF rfl ?_
    refine wp_ord layOk mixed [(0, 10)] [] (by kernel_rfl) ?_
    refine wp_load (ld_of hb rfl) ?_
    refine wp_load (ld_of hb rfl) ?_
    refine wp_store hN1.here (by rfl) ?_
    intro h2 hU
    exact wp_done (finM_at [_, _, _] rfl ⟨rfl, ⟨_, _, _, rfl, rfl, ld_of hU.here rfl⟩, rfl, trivial⟩ ⟨rfl, hU.chgGe hc1 hN1.le⟩)
def getV (k : Int) (xs : List (Int × TotR)) : Value := match getL eqI k xs with
  | none => .tuple #[zTot, .bool false]
  | some v => .tuple #[vTot v, .bool true]
theorem get_c (M) (xs : List (Int × TotR)) (k : Int) (p : Option Addr) (h : Hp) (hm : Mp M h p xs) : Call c Tryz.prog 101 #[.agg #[.pointer p], .int .i64 k] h fun v h' => v = getV k xs ∧ Chg [] h h' := by
  obtain ⟨t, ht, rfl, hs⟩ := hm
  refine call_ofM layOk 19 Tryz.func101 Tryz.ntmps101 rfl rfl rfl ?_
  refine wp_new ?_
  intro bm h1 hN1
  have hc1 := hN1.chg []
  refine wp_new ?_
  intro bo h2 hN2
  have hc2 := hc1.trans (hN2.chg [])
  refine wp_load (ld_of (hN2.of hN1.here) rfl) ?_
  refine wp_call (find_c M k t p _ (ht.ext hc2)) ?_
  rintro _ h3 ⟨q, rfl, hc3, hq⟩
  refine wp_call (told_c M _ q _ hq) ?_
  rintro _ h4 ⟨rfl, hc4⟩
  have hf := findT_get loI k t hs
  generalize findT ltI eqI k t = f at hf
  cases f with
  | leaf =>
    have ho := hc4.of (hc3.of hN2.here (by simp)) (by simp)
    refine wp_new ?_
    intro bt h5 hN5
    refine wp_store hN5.here (by rfl) ?_
    intro h6 hU6
    refine wp_load (ld_of hU6.here rfl) ?_
    have hne : bo ≠ bt := hN5.ne ho
    refine wp_store (hU6.of (hN5.of ho) hne) (by rfl) ?_
    intro h7 hU7
    have hc6 := hU6.chgGe (h0 := h4) (M := []) (hN5.chg []) hN5.le
    refine wp_done (finM_at [_, _] rfl ⟨⟨_, _, _, rfl, rfl, ld_of hU7.here rfl⟩, rfl, trivial⟩ ⟨?_, ?_⟩)
    · unfold getV; rw [hf]; rfl
    · have := hN2.le
      have := hc1.size
      exact hU7.chgGe (hc2.trans (hc3.trans (hc4.trans hc6))) (by omega)
  | node l a b r =>
    have ho := hc4.of (hc3.of hN2.here (by simp)) (by simp)
    refine wp_new ?_
    intro bt h5 hN5
    refine wp_store hN5.here (by rfl) ?_
    intro h6 hU6
    refine wp_load (ld_of hU6.here rfl) ?_
    have hne : bo ≠ bt := hN5.ne ho
    refine wp_store (hU6.of (hN5.of ho) hne) (by rfl) ?_
    intro h7 hU7
    have hc6 := hU6.chgGe (h0 := h4) (M := []) (hN5.chg []) hN5.le
    refine wp_done (finM_at [_, _] rfl ⟨⟨_, _, _, rfl, rfl, ld_of hU7.here rfl⟩, rfl, trivial⟩ ⟨?_, ?_⟩)
    · unfold getV; rw [hf.2]; rfl
    · have := hN2.le
      have := hc1.size
      exact hU7.chgGe (hc2.trans (hc3.trans (hc4.trans hc6))) (by omega)
theorem mput_c (M : List Nat) (xs : List (Int × TotR)) (k : Int) (v : TotR) (p : Option Addr) (h : Hp) (hM : Bd M h) (hm : Mp M h p xs) (hz : xs.length < 900000) : Call c Tryz.prog 204 #[.agg #[.pointer p], .int .i64 k, vTot v] h fun x h' => ∃ q, x = .agg #[.pointer q] ∧ Chg [] h h' ∧ Mp M h' q (insL ltI k v xs) := by
  obtain ⟨t, ht, rfl, hs⟩ := hm
  rw [Tr.length_toL] at hz
  refine call_ofM layOk 13 Tryz.func204 Tryz.ntmps204 rfl rfl rfl ?_
  refine wp_new ?_
  intro bm h1 hN1
  have hc1 := hN1.chg []
  refine wp_new ?_
  intro bv h2 hN2
  have hc2 := hc1.trans (hN2.chg [])
  refine wp_new ?_
  intro bo h3 hN3
  have hc3 := hc2.trans (hN3.chg [])
  refine wp_load (ld_of (hN3.of (hN2.of hN1.here)) rfl) ?_
  refine wp_load (ld_of (hN3.of hN2.here) rfl) ?_
  refine wp_call (put_c M k v t p _ (hM.chg hc3) (ht.ext hc3) hz) ?_
  rintro _ h4 ⟨q, rfl, hc4, hq⟩
  have ho := hc4.of hN3.here (by simp)
  refine wp_store ho (by rfl) ?_
  intro h5 hU5
  have hn : h.size ≤ bo := Nat.le_trans hc2.size hN3.le
  have hc5 := hU5.chgGe (hc3.trans hc4) hn
  refine wp_done (finM_at [_] rfl ⟨⟨_, _, _, rfl, rfl, ld_of hU5.here rfl⟩, trivial⟩ ⟨q, rfl, hc5, putT ltI k v t, ?_, toL_putT loI k v t hs, sorted_insL loI k v _ hs⟩)
  exact TreeAt.wr hU5 ho (by decide) hq
end Go.Xe.TI
namespace Go.Xe
open Go Go.Proofs

structure KindR where
  k0 : Int
  k1 : Int
  k2 : Int
  k3 : Int
structure BaleR where
  no : Int
  kind : KindR
  grams : Int
  parts : List PartR
  state : Int
  lot : ByteArray
  from_ : List Int
structure LotR where
  name : ByteArray
  bales : List Int
  sent : Bool
/-- where the slices of a bale lie -/
structure BalP where
  pa : Option Addr
  pc : Nat
  fa : Option Addr
  fc : Nat
def elBale (r : BaleR) (p : BalP) : List Value :=
  [.int .i64 r.no, .int .u8 r.kind.k0, .int .u8 r.kind.k1, .int .u8 r.kind.k2, .int .u8 r.kind.k3, .int .i64 r.grams, .slice p.pa r.parts.length p.pc, .int .i64 r.state, .string r.lot, .slice p.fa r.from_.length p.fc]
def vBale (r : BaleR) (p : BalP) : Value := .agg #[.int .i64 r.no, .int .u8 r.kind.k0, .int .u8 r.kind.k1, .int .u8 r.kind.k2, .int .u8 r.kind.k3, .int .i64 r.grams, .slice p.pa r.parts.length p.pc, .int .i64 r.state, .string r.lot, .slice p.fa r.from_.length p.fc]
def zBaleR : BaleR := ⟨0, ⟨0, 0, 0, 0⟩, 0, [], 0, ⟨#[]⟩, []⟩
def zBalP : BalP := ⟨none, 0, none, 0⟩
/-- the slices of a bale's value -/
def BalOk (M : List Nat) (h : Hp) (r : BaleR) (p : BalP) : Prop := PartsAt M h p.pa p.pc r.parts ∧ IntsAt M h p.fa p.fc r.from_
def BaleAt (M : List Nat) (h : Hp) (b : Nat) (r : BaleR) : Prop := ∃ p, b ∉ M ∧ h[b]? = some (.cells (elBale r p).toArray 42 (0, 0)) ∧ BalOk M h r p
def elLot (r : LotR) (a : Option Addr) (cap : Nat) : List Value := [.string r.name, .slice a r.bales.length cap, .bool r.sent]
def LotAt (M : List Nat) (h : Hp) (b : Nat) (r : LotR) : Prop := ∃ a cap, b ∉ M ∧ h[b]? = some (.cells (elLot r a cap).toArray 36 (0, 0)) ∧ IntsAt M h a cap r.bales

/-- keys are the same, values are related -/
def all2 {K β γ : Type} (R : β → γ → Prop) : List (K × β) → List (K × γ) → Prop
  | [], [] => True
  | (a, b) :: ys, (a', c) :: bs => a = a' ∧ R b c ∧ all2 R ys bs
  | _, _ => False

section
variable {K β γ : Type} {R R' : β → γ → Prop}
theorem all2.mono (hR : ∀ b c, R b c → R' b c) : ∀ {ys : List (K × β)} {bs : List (K × γ)}, all2 R ys bs → all2 R' ys bs
  | [], [], _ => trivial
  | (_, _) :: _, (_, _) :: _, ⟨h1, h2, h3⟩ => ⟨h1, hR _ _ h2, all2.mono hR h3⟩
theorem all2.len : ∀ {ys : List (K × β)} {bs : List (K × γ)}, all2 R ys bs → ys.length = bs.length
  | [], [], _ => rfl
  | (_, _) :: _, (_, _) :: _, ⟨_, _, h3⟩ => by simp [all2.len h3]
theorem all2.get (eq : K → K → Bool) (k : K) : ∀ {ys : List (K × β)} {bs : List (K × γ)}, all2 R ys bs →
    (getL eq k ys = none ∧ getL eq k bs = none) ∨ ∃ b c, getL eq k ys = some b ∧ getL eq k bs = some c ∧ R b c
  | [], [], _ => .inl ⟨rfl, rfl⟩
  | (a, b) :: ys, (a', c) :: bs, ⟨h1, h2, h3⟩ => by
    subst h1
    simp only [getL]
    split
    · exact .inr ⟨b, c, rfl, rfl, h2⟩
    · exact all2.get eq k h3
theorem all2.ins (lt : K → K → Bool) (k : K) {b : β} {c : γ} (hbc : R b c) : ∀ {ys : List (K × β)} {bs : List (K × γ)}, all2 R ys bs → all2 R (insL lt k b ys) (insL lt k c bs)
  | [], [], _ => ⟨rfl, hbc, trivial⟩
  | (a, b') :: ys, (a', c') :: bs, ⟨h1, h2, h3⟩ => by
    subst h1
    simp only [insL]
    split
    · exact ⟨rfl, hbc, rfl, h2, h3⟩
    · split
      · exact ⟨rfl, h2, all2.ins lt k hbc h3⟩
      · exact ⟨rfl, hbc, h3⟩
theorem all2.del (eq : K → K → Bool) (k : K) : ∀ {ys : List (K × β)} {bs : List (K × γ)}, all2 R ys bs → all2 R (delL eq k ys) (delL eq k bs)
  | [], [], _ => trivial
  | (a, b) :: ys, (a', c) :: bs, ⟨h1, h2, h3⟩ => by
    subst h1
    simp only [delL]
    split
    · exact h3
    · exact ⟨rfl, h2, all2.del eq k h3⟩
end

section
variable {M M' : List Nat} {h h' : Hp}
theorem BalOk.chg (x : Chg M' h h') (hm : ∀ m, m ∈ M' → m ∈ M) {r : BaleR} {p : BalP} (y : BalOk M h r p) : BalOk M h' r p := ⟨y.1.chg x hm, y.2.chg x hm⟩
theorem BalOk.ext (x : Chg [] h h') {r : BaleR} {p : BalP} (y : BalOk M h r p) : BalOk M h' r p := y.chg x (by simp)
theorem BalOk.sub (hm : ∀ m, m ∈ M' → m ∈ M) {r : BaleR} {p : BalP} (y : BalOk M h r p) : BalOk M' h r p := ⟨y.1.sub hm, y.2.sub hm⟩
theorem BalOk.push {m : Nat} (hm : h.size ≤ m) {r : BaleR} {p : BalP} (y : BalOk M h r p) : BalOk (m :: M) h r p := ⟨y.1.push hm, y.2.push hm⟩
theorem BaleAt.chg (x : Chg M' h h') (hm : ∀ m, m ∈ M' → m ∈ M) {b : Nat} {r : BaleR} (y : BaleAt M h b r) : BaleAt M h' b r := by
  obtain ⟨p, h1, h2, h3⟩ := y
  exact ⟨p, h1, x.of h2 (fun hh => h1 (hm b hh)), h3.chg x hm⟩
theorem BaleAt.sub (hm : ∀ m, m ∈ M' → m ∈ M) {b : Nat} {r : BaleR} (y : BaleAt M h b r) : BaleAt M' h b r := by
  obtain ⟨p, h1, h2, h3⟩ := y
  exact ⟨p, fun hh => h1 (hm b hh), h2, h3.sub hm⟩
theorem BaleAt.push {m : Nat} (hm : h.size ≤ m) {b : Nat} {r : BaleR} (y : BaleAt M h b r) : BaleAt (m :: M) h b r := by
  obtain ⟨p, h1, h2, h3⟩ := y
  have := (Array.getElem?_eq_some_iff.1 h2).1
  exact ⟨p, fun hh => by rcases List.mem_cons.1 hh with rfl | hh; exact absurd hm (by omega); exact h1 hh, h2, h3.push hm⟩
theorem LotAt.chg (x : Chg M' h h') (hm : ∀ m, m ∈ M' → m ∈ M) {b : Nat} {r : LotR} (y : LotAt M h b r) : LotAt M h' b r := by
  obtain ⟨a, cap, h1, h2, h3⟩ := y
  exact ⟨a, cap, h1, x.of h2 (fun hh => h1 (hm b hh)), h3.chg x hm⟩
theorem LotAt.sub (hm : ∀ m, m ∈ M' → m ∈ M) {b : Nat} {r : LotR} (y : LotAt M h b r) : LotAt M' h b r := by
  obtain ⟨a, cap, h1, h2, h3⟩ := y
  exact ⟨a, cap, fun hh => h1 (hm b hh), h2, h3.sub hm⟩
theorem LotAt.push {m : Nat} (hm : h.size ≤ m) {b : Nat} {r : LotR} (y : LotAt M h b r) : LotAt (m :: M) h b r := by
  obtain ⟨a, cap, h1, h2, h3⟩ := y
  have := (Array.getElem?_eq_some_iff.1 h2).1
  exact ⟨a, cap, fun hh => by rcases List.mem_cons.1 hh with rfl | hh; exact absurd hm (by omega); exact h1 hh, h2, h3.push hm⟩
end

/-- what a state tells -/
structure StateR where
  clips : List (Int × ClipR)
  names : List (ByteArray × Int)
  bales : List (Int × BaleR)
  lots : List (ByteArray × LotR)
  totals : List (Int × TotR)
/-- its roots -/
structure StP where
  c : Option Addr
  n : Option Addr
  b : Option Addr
  l : Option Addr
  t : Option Addr
def elSt (p : StP) : List Value := [.pointer p.c, .pointer p.n, .pointer p.b, .pointer p.l, .pointer p.t]
def vSt (p : StP) : Value := .agg #[.pointer p.c, .pointer p.n, .pointer p.b, .pointer p.l, .pointer p.t]
def BalesAt (M : List Nat) (h : Hp) (p : Option Addr) (bs : List (Int × BaleR)) : Prop := ∃ ys, BI.Mp M h p ys ∧ all2 (BaleAt M h) ys bs
def LotsAt (M : List Nat) (h : Hp) (p : Option Addr) (bs : List (ByteArray × LotR)) : Prop := ∃ ys, SL.Mp M h p ys ∧ all2 (LotAt M h) ys bs
structure StOk (M : List Nat) (h : Hp) (p : StP) (σ : StateR) : Prop where
  clips : CI.Mp M h p.c σ.clips
  names : SI.Mp M h p.n σ.names
  bales : BalesAt M h p.b σ.bales
  lots : LotsAt M h p.l σ.lots
  totals : TI.Mp M h p.t σ.totals

section
variable {M M' : List Nat} {h h' : Hp} {q : Option Addr} {p : StP} {σ : StateR}
theorem BalesAt.chg (x : Chg M' h h') (hm : ∀ m, m ∈ M' → m ∈ M) {bs : List (Int × BaleR)} (y : BalesAt M h q bs) : BalesAt M h' q bs := by
  obtain ⟨ys, h1, h2⟩ := y
  exact ⟨ys, h1.chg x hm, h2.mono fun _ _ z => z.chg x hm⟩
theorem BalesAt.sub (hm : ∀ m, m ∈ M' → m ∈ M) {bs : List (Int × BaleR)} (y : BalesAt M h q bs) : BalesAt M' h q bs := by
  obtain ⟨ys, h1, h2⟩ := y
  exact ⟨ys, h1.sub hm, h2.mono fun _ _ z => z.sub hm⟩
theorem BalesAt.push {m : Nat} (hm : h.size ≤ m) {bs : List (Int × BaleR)} (y : BalesAt M h q bs) : BalesAt (m :: M) h q bs := by
  obtain ⟨ys, h1, h2⟩ := y
  exact ⟨ys, h1.push hm, h2.mono fun _ _ z => z.push hm⟩
theorem LotsAt.chg (x : Chg M' h h') (hm : ∀ m, m ∈ M' → m ∈ M) {bs : List (ByteArray × LotR)} (y : LotsAt M h q bs) : LotsAt M h' q bs := by
  obtain ⟨ys, h1, h2⟩ := y
  exact ⟨ys, h1.chg x hm, h2.mono fun _ _ z => z.chg x hm⟩
theorem LotsAt.sub (hm : ∀ m, m ∈ M' → m ∈ M) {bs : List (ByteArray × LotR)} (y : LotsAt M h q bs) : LotsAt M' h q bs := by
  obtain ⟨ys, h1, h2⟩ := y
  exact ⟨ys, h1.sub hm, h2.mono fun _ _ z => z.sub hm⟩
theorem LotsAt.push {m : Nat} (hm : h.size ≤ m) {bs : List (ByteArray × LotR)} (y : LotsAt M h q bs) : LotsAt (m :: M) h q bs := by
  obtain ⟨ys, h1, h2⟩ := y
  exact ⟨ys, h1.push hm, h2.mono fun _ _ z => z.push hm⟩
theorem StOk.chg (x : Chg M' h h') (hm : ∀ m, m ∈ M' → m ∈ M) (y : StOk M h p σ) : StOk M h' p σ := ⟨y.clips.chg x hm, y.names.chg x hm, y.bales.chg x hm, y.lots.chg x hm, y.totals.chg x hm⟩
theorem StOk.ext (x : Chg [] h h') (y : StOk M h p σ) : StOk M h' p σ := y.chg x (by simp)
theorem StOk.sub (hm : ∀ m, m ∈ M' → m ∈ M) (y : StOk M h p σ) : StOk M' h p σ := ⟨y.clips.sub hm, y.names.sub hm, y.bales.sub hm, y.lots.sub hm, y.totals.sub hm⟩
theorem StOk.push {m : Nat} (hm : h.size ≤ m) (y : StOk M h p σ) : StOk (m :: M) h p σ := ⟨y.clips.push hm, y.names.push hm, y.bales.push hm, y.lots.push hm, y.totals.push hm⟩
theorem StOk.zero : StOk M h ⟨none, none, none, none, none⟩ ⟨[], [], [], [], []⟩ := ⟨.nil, .nil, ⟨[], .nil, trivial⟩, ⟨[], .nil, trivial⟩, .nil⟩
end
end Go.Xe
namespace Go.Xe
open Go Go.Proofs
set_option maxRecDepth 20000
variable {c : World}
abbrev StBlk (h : Hp) (sb : Nat) (p : StP) : Prop := h[sb]? = some (.cells (elSt p).toArray 112 (0, 0))
theorem BaleAt.new {M : List Nat} {h h' : Hp} {b : Nat} {r : BaleR} {q : BalP} (hM : Bd M h) (hN : New h h' b (.cells (elBale r q).toArray 42)) (hq : BalOk M h r q) : BaleAt M h' b r :=
  ⟨q, hM.fresh hN, hN.here, hq.ext (hN.chg [])⟩

theorem full_c (M : List Nat) (sb : Nat) (p : StP) (σ : StateR) (h : Hp) (hsb : StBlk h sb p) (hσ : StOk M h p σ) : Call c Tryz.prog 154 #[.pointer (some ⟨sb, 0, none⟩)] h fun v h' => v = .bool (decide (512 ≤ σ.bales.length)) ∧ Chg [] h h' := by
  obtain ⟨ys, hm, ha⟩ := hσ.bales
  refine call_of layOk 9 Tryz.func154 Tryz.ntmps154 rfl rfl rfl rfl ?_
  refine wp_load (ld_of hsb rfl) ?_
  refine wp_call (BI.mlen_c M ys p.b h hm) ?_
  rintro _ h2 ⟨rfl, hc⟩
  refine wp_done ⟨rfl, congrArg Value.bool ?_, hc⟩
  rw [ha.len]
  exact decide_eq_decide.2 (by omega)

theorem keep_c (M : List Nat) (sb : Nat) (p : StP) (σ : StateR) (r : BaleR) (q : BalP) (h : Hp) (hM : Bd M h) (hsM : sb ∈ M) (hsb : StBlk h sb p) (hσ : StOk M h p σ) (hq : BalOk M h r q) (hz : σ.bales.length < 900000) :
    Call c Tryz.prog 161 #[.pointer (some ⟨sb, 0, none⟩), vBale r q] h fun _ h' => ∃ p', StBlk h' sb p' ∧ StOk M h' p' { σ with bales := insL ltI r.no r σ.bales } ∧ Chg [sb] h h' := by
  obtain ⟨ys, hm, ha⟩ := hσ.bales
  refine call_of layOk 14 Tryz.func161 Tryz.ntmps161 rfl rfl rfl rfl ?_
  refine wp_new ?_
  intro b h1 hN
  have hc1 := hN.chg []
  have hb : BaleAt M h1 b r := BaleAt.new hM hN hq
  refine wp_ord layOk mixed [(0, 10)] [] (by kernel_rfl) ?_
  refine wp_load (ld_of (hN.of hsb) rfl) ?_
  refine wp_load (ld_of hN.here rfl) ?_
  refine wp_call (BI.mput_c M ys r.no b p.b h1 (hM.chg hc1) (hm.ext hc1) (by rw [ha.len]; exact hz)) ?_
  rintro _ h2 ⟨q2, rfl, hc2, hm2⟩
  refine wp_store ((hc1.trans hc2).of hsb (by simp)) (by rfl) ?_
  intro h3 hU
  have hc3 : Chg [sb] h2 h3 := hU.chg (by simp)
  have hs : ∀ m, m ∈ [sb] → m ∈ M := fun m hm => by rcases List.mem_singleton.1 hm with rfl; exact hsM
  have h9 := (hσ.ext (hc1.trans hc2)).chg hc3 hs
  refine wp_done ⟨rfl, { p with b := q2 }, hU.here, ⟨h9.clips, h9.names, ⟨_, hm2.chg hc3 hs, ?_⟩, h9.lots, h9.totals⟩, ((hc1.trans hc2).mono (by simp)).trans hc3⟩
  exact ((ha.mono fun _ _ z => (z.chg (hc1.trans hc2) (by simp))).ins ltI r.no (hb.chg hc2 (by simp))).mono fun _ _ z => z.chg hc3 hs

theorem made_c (M : List Nat) (sb : Nat) (p : StP) (σ : StateR) (r : BaleR) (q : BalP) (h : Hp) (hM : Bd M h) (hsM : sb ∈ M) (hsb : StBlk h sb p) (hσ : StOk M h p σ) (hq : BalOk M h r q) (hz : σ.bales.length < 900000) :
    Call c Tryz.prog 157 #[.pointer (some ⟨sb, 0, none⟩), vBale r q] h fun v h' => v = .int .i64 (σ.bales.length + 1) ∧ ∃ p', StBlk h' sb p' ∧ StOk M h' p' { σ with bales := insL ltI (σ.bales.length + 1) { r with no := σ.bales.length + 1 } σ.bales } ∧ Chg [sb] h h' := by
  obtain ⟨ys, hm, ha⟩ := hσ.bales
  have hw : IntKind.i64.wrap ((ys.length : Int) + 1) = σ.bales.length + 1 := by rw [ha.len, w64 (by omega) (by omega)]
  refine call_of layOk 17 Tryz.func157 Tryz.ntmps157 rfl rfl rfl rfl ?_
  refine wp_new ?_
  intro b h1 hN
  have hc1 := hN.chg []
  refine wp_load (ld_of (hN.of hsb) rfl) ?_
  refine wp_call (BI.mlen_c M ys p.b h1 (hm.ext hc1)) ?_
  rintro _ h2 ⟨rfl, hc2⟩
  refine wp_store (hc2.of hN.here (by simp)) (by rfl) ?_
  intro h3 hU3
  have hc3 : Chg [] h h3 := hU3.chgGe (hc1.trans hc2) hN.le
  refine wp_load (v := vBale { r with no := IntKind.i64.wrap ((ys.length : Int) + 1) } q) (ld_of hU3.here rfl) ?_
  refine wp_call (keep_c M sb p σ { r with no := IntKind.i64.wrap ((ys.length : Int) + 1) } q h3 (hM.chg hc3) hsM (hc3.of hsb (by simp)) (hσ.ext hc3) (hq.ext hc3) hz) ?_
  rintro _ h4 ⟨p', hb4, hσ4, hc4⟩
  have hne : b ∉ [sb] := by
    intro hm
    have h5 := List.mem_singleton.1 hm
    have h6 := hN.le
    have h7 := (Array.getElem?_eq_some_iff.1 hsb).1
    omega
  refine wp_load (ld_of (hc4.of hU3.here hne) rfl) ?_
  rw [hw] at hσ4
  exact wp_done ⟨rfl, congrArg (Value.int .i64) hw, p', hb4, hσ4, (hc3.mono (by simp)).trans hc4⟩
end Go.Xe
