/- Joined: AbsPNXL AbsPNXM AbsPNXN. -/
import Derived.Test.YtbkhamjlfadfoaaDoorAbs312
import Derived.Test.YtbkhamjlfadfoaaDoorAbs322
set_option linter.all false
set_option maxHeartbeats 16000000
noncomputable section
namespace Go.Abs
open Go Go.Proofs
theorem rsV_lent (rs : List RD) : frzL false (rsV rs) = rsV (rs.map lent) := by
 induction rs with
 | nil => rfl
 | cons r l ih => show frz false (rV r) :: frzL false (rsV l) = rV (lent r) :: rsV (l.map lent); rw [ih]; simp [rV, frz, lent]
def evK (e : Ev) : Int × Int × List Nat := (e.round, e.frm, e.w.l)
def lentE (e : Ev) : Ev := { e with w := lent e.w }
theorem frzL_evsC (es : List Ev) : frzL false (evsC es) = evsC (es.map lentE) := by
 induction es with
 | nil => rfl
 | cons e l ih =>
   show frz false (.int .i64 e.round) :: frz false (.int .i64 e.frm) :: frz false (rV e.w) :: frzL false (evsC l) = .int .i64 e.round :: .int .i64 e.frm :: rV (lent e.w) :: evsC (l.map lentE)
   rw [ih]; simp [rV, frz, lent]
theorem evK_lent (es : List Ev) : (es.map lentE).map evK = es.map evK := by rw [List.map_map]; rfl
end Go.Abs
end
