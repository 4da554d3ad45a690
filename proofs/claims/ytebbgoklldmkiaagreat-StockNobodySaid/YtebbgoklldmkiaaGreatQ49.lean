/- The closed facts of the row of StockNobody, each by itself. -/
import Derived.Test.YtebbgoklldmkiaaGreatQ48
namespace Go.Proofs.YtebbgoklldmkiaaGreat.FactsStockNobody
open Go
theorem wf : Rows.stockNobodyRow.wf (OpenSpec.ofChange Rows.stockNobodySpec) = true := by kernel_rfl
theorem par : Tryz.f14.params.all (Tryz.prog.readableRec ·) = true := by kernel_rfl
theorem tie : namedTie Tryz.prog Rows.stockNobodyRow.named Rows.stockNobodySpec.vars = true := by kernel_rfl
theorem cst : (Rows.stockNobodyRow.stops == []) = true := by kernel_rfl
theorem ckn : (Rows.stockNobodyRow.knobs == []) = true := by kernel_rfl
theorem inp : (Rows.stockNobodyRow.inPlace == Tryz.prog.inPlace 14) = true := by kernel_rfl
theorem unf : (Rows.stockNobodyRow.unfollowed == Tryz.prog.unfollowed 14) = true := by kernel_rfl
theorem rec : (Rows.stockNobodyRow.recurses == Tryz.prog.recurses 14) = true := by kernel_rfl
theorem nam : (Rows.stockNobodyRow.named == Tryz.prog.varsNamed 14) = true := by kernel_rfl
theorem maps : (Rows.stockNobodyRow.maps == (Tryz.f14.params.toList ++ Rows.stockNobodySpec.plain.varTypes Tryz.prog).any (Tryz.prog.mapsRec ·)) = true := by kernel_rfl
theorem ifa : (Rows.stockNobodyRow.ifaces == (Tryz.f14.params.toList ++ Rows.stockNobodySpec.plain.varTypes Tryz.prog).any (Tryz.prog.ifacesRec ·)) = true := by kernel_rfl
theorem mout : (Rows.stockNobodyRow.mapsOut == Tryz.prog.mapsAmong Tryz.f14.resultTypes.toList) = true := by kernel_rfl
theorem loo : (Rows.stockNobodyRow.loops == (Tryz.f14.params.toList ++ Rows.stockNobodySpec.plain.varTypes Tryz.prog).any (Tryz.prog.loopsFrom ·)) = true := by kernel_rfl
theorem wid : (Rows.stockNobodyRow.wideKeys == (Tryz.f14.params.toList ++ Rows.stockNobodySpec.plain.varTypes Tryz.prog ++ Tryz.f14.resultTypes.toList).any (Tryz.prog.wideKeysFrom ·)) = true := by kernel_rfl
theorem var : Rows.stockNobodySpec.vars.all (Tryz.prog.varReadable ·) = true := by kernel_rfl
theorem res : Tryz.f14.resultTypes.all (fun t => Tryz.prog.readableRec t && decide (t < Tryz.prog.types.size)) = true := by kernel_rfl
theorem iou : (Rows.stockNobodyRow.ifacesOut == Tryz.f14.resultTypes.toList.any (Tryz.prog.ifacesRec ·)) = true := by kernel_rfl
theorem lou : (Rows.stockNobodyRow.loopsOut == Tryz.f14.resultTypes.toList.any (Tryz.prog.loopsFrom ·)) = true := by kernel_rfl
theorem pk : (Rows.stockNobodyRow.plainKeys == Tryz.prog.plainKeys) = true := by kernel_rfl
theorem sho : Rows.stockNobodyRow.shortTexts.isNone = true := by kernel_rfl
theorem lif : (Rows.stockNobodyRow.lifted == Tryz.prog.liftsFinal) = true := by kernel_rfl
theorem mak : (Tryz.prog.make == some Rows.stockNobodyRow.make) = true := by kernel_rfl
theorem kin : (Rows.stockNobodyRow.kinds == (if Rows.stockNobodyRow.domain.isEmpty then [] else Tryz.f14.params.toList.map fun t => match Tryz.prog.underlying t with | some (.int k) => some k | _ => none)) = true := by kernel_rfl
theorem pin : (Rows.stockNobodyRow.pinned == Rows.stockNobodyRow.pinnedBy) = true := by kernel_rfl
theorem vei : (Rows.stockNobodyRow.veiled == (Tryz.f14.params.toList ++ Rows.stockNobodySpec.plain.varTypes Tryz.prog ++ Tryz.f14.resultTypes.toList).any (Tryz.prog.veiledRec ·)) = true := by kernel_rfl
theorem vef : Rows.stockNobodyRow.veiledFits Tryz.prog Tryz.f14.params.toList (Tryz.f14.params.toList ++ Rows.stockNobodySpec.plain.varTypes Tryz.prog ++ Tryz.f14.resultTypes.toList) = true := by kernel_rfl
set_option maxRecDepth 100000 in
theorem all : joinedFacts Tryz.prog 14 Tryz.f14 Rows.stockNobodySpec Rows.stockNobodyRow = true := by
  unfold joinedFacts
  simp only [Bool.and_eq_true]
  exact ⟨⟨⟨⟨⟨⟨⟨⟨⟨⟨⟨⟨⟨⟨⟨⟨⟨⟨⟨⟨⟨⟨⟨⟨⟨⟨⟨⟨⟨⟨⟨wf, Facts.laid⟩, Facts.mapsR⟩, par⟩, tie⟩, cst⟩, Facts.stops⟩, ckn⟩, Facts.stopK⟩, inp⟩, unf⟩, rec⟩, nam⟩, maps⟩, ifa⟩, mout⟩, loo⟩, wid⟩, var⟩, res⟩, iou⟩, lou⟩, pk⟩, sho⟩, Facts.heard⟩, Facts.may⟩, lif⟩, mak⟩, kin⟩, pin⟩, vei⟩, vef⟩
end Go.Proofs.YtebbgoklldmkiaaGreat.FactsStockNobody
