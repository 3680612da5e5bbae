/- Contracts: a map's sixteen cells at hand. -/
import Derived.Test.YtjlaoocomkonhaaT94
import Derived.Test.YtjlaoocomkonhaaT95
namespace Go.Proofs.Ytjlaoocomkonhaa
open Go.RowKit
theorem BoxM.cells {w : World} {g : Nat} {f : Nat → Int} (h : BoxM w g f) : w.cell? ⟨g, 0, none⟩ = some (.int .i64 (f 0)) ∧ w.cell? ⟨g, 1, none⟩ = some (.int .i64 (f 1)) ∧ w.cell? ⟨g, 2, none⟩ = some (.int .i64 (f 2)) ∧ w.cell? ⟨g, 3, none⟩ = some (.int .i64 (f 3)) ∧ w.cell? ⟨g, 4, none⟩ = some (.int .i64 (f 4)) ∧ w.cell? ⟨g, 5, none⟩ = some (.int .i64 (f 5)) ∧ w.cell? ⟨g, 6, none⟩ = some (.int .i64 (f 6)) ∧ w.cell? ⟨g, 7, none⟩ = some (.int .i64 (f 7)) ∧ w.cell? ⟨g, 8, none⟩ = some (.int .i64 (f 8)) ∧ w.cell? ⟨g, 9, none⟩ = some (.int .i64 (f 9)) ∧ w.cell? ⟨g, 10, none⟩ = some (.int .i64 (f 10)) ∧ w.cell? ⟨g, 11, none⟩ = some (.int .i64 (f 11)) ∧ w.cell? ⟨g, 12, none⟩ = some (.int .i64 (f 12)) ∧ w.cell? ⟨g, 13, none⟩ = some (.int .i64 (f 13)) ∧ w.cell? ⟨g, 14, none⟩ = some (.int .i64 (f 14)) ∧ w.cell? ⟨g, 15, none⟩ = some (.int .i64 (f 15)) :=
  ⟨h.2 0 (by omega), h.2 1 (by omega), h.2 2 (by omega), h.2 3 (by omega), h.2 4 (by omega), h.2 5 (by omega), h.2 6 (by omega), h.2 7 (by omega), h.2 8 (by omega), h.2 9 (by omega), h.2 10 (by omega), h.2 11 (by omega), h.2 12 (by omega), h.2 13 (by omega), h.2 14 (by omega), h.2 15 (by omega)⟩
end Go.Proofs.Ytjlaoocomkonhaa
