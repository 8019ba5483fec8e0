/- LengthOf and LengthsOf, of the program and of the reference; the law of LengthOf. -/
import Derived.Test.YtefcdkgfabaffaaG6
namespace Go.Proofs.Ytefcdkgfabaffaa
open Go.ChangeShapes Go.WideShapes Go.RowKit
set_option linter.unusedVariables false
set_option linter.unusedSimpArgs false
set_option maxHeartbeats 2000000
set_option maxRecDepth 100000
def lastI (ls : List Int) : Int := if ls.length = 0 then 0 else ls.getD (ls.length - 1) 0
theorem lastI_nil {ls : List Int} (h : ls.length = 0) : lastI ls = 0 := by rw [lastI, if_pos h]
theorem lastI_at {ls : List Int} (h : ls.length ≠ 0) : lastI ls = ls.getD (ls.length - 1) 0 := by rw [lastI, if_neg h]
def gLen (l : List Ru) : Int := if gOk l then lastI (gLn l) else 0
def gC (l : List Ru) : Int := if gOk l then 0 else 1
def gLs (l : List Ru) : List Int := if gOk l then gLn l else []
theorem g_bad {l : List Ru} (h : gOk l = false) : gLen l = 0 ∧ gC l = 1 ∧ gLs l = [] := by simp [gLen, gC, gLs, h]
theorem g_ok {l : List Ru} (h : gOk l = true) : gLen l = lastI (gLn l) ∧ gC l = 0 ∧ gLs l = gLn l := by simp [gLen, gC, gLs, h]
theorem i_last (v : Value) (ls : List Int) (base : Nat) (w : World) (hl : ls.length ≤ 1048576) (ho : w.ownsRow base 2 1 v ls.length (ls.map (Value.int .i64))) :
    Calls Try.prog 144 #[v] w fun e w' => e = .returned (.int .i64 (lastI ls)) ∧ Qt w w' := by
  obtain ⟨a, cap, rfl, hsome, -⟩ := owns_sl3 ho
  by_cases h0 : ls.length = 0
  · have HF := Lib.hid (lastI_nil h0)
    clear ho hsome
    have h0i : ((ls.length : Int) == 0) = true := by rw [h0]; rfl
    go_enter Try.func144, Try.ntmps144
    go_wp2
    go_ret
    exact ⟨ret_int HF.out.symm, Qt.refl _⟩
  · obtain ⟨g, rfl⟩ := hsome h0
    obtain ⟨n, hn⟩ : ∃ n, ls.length = n + 1 := ⟨ls.length - 1, by omega⟩
    have hc : w.cell? ⟨g, n, none⟩ = some (.int .i64 (lastI ls)) := by
      rw [ho.cellAt n (by omega), lastI_at h0, hn]
      simp [List.getD, show n < ls.length by omega]
    have h0i : ((ls.length : Int) == 0) = false := by rw [beq_eq_false_iff_ne]; omega
    have hni : (ls.length : Int) - 1 = (n : Int) := by omega
    have hn2 : (n : Int) < ls.length := by omega
    clear ho hsome h0 hn
    generalize lastI ls = x at *
    generalize ls.length = m at *
    go_enter Try.func144, Try.ntmps144
    go_wp2
    go_ret
    exact ⟨rfl, by first | exact Qt.refl _ | exact ⟨_, rfl⟩⟩
end Go.Proofs.Ytefcdkgfabaffaa
