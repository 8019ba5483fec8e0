/- PatternAuto, of the program and of the reference; the law. -/
import Derived.Test.YtimfbnjgodbgoaaKX
namespace Go.Proofs.Ytimfbnjgodbgoaa
open Go.ChangeShapes Go.WideShapes Go.RowKit
set_option linter.unusedVariables false
set_option linter.unusedSimpArgs false
set_option maxHeartbeats 2000000
set_option maxRecDepth 100000
def pcR (p : ByteArray) : Au := if paC p = 0 then paA p else ⟨0, 0, [], []⟩
theorem paC_ok {p : ByteArray} (h : paC p = 0) : validB p = true ∧ p.size ≠ 0 ∧ p.size ≤ 20 := by
  unfold paC at h
  split at h
  · cases h
  · rename_i hv
    split at h
    · cases h
    · split at h
      · cases h
      · exact ⟨by simpa using hv, by omega, by omega⟩
theorem paT_row (p : ByteArray) : ∀ {n s : Nat}, s < n → tA (paT p n) s = paR p s 4
  | 0, s, h => by omega
  | n + 1, s, h => by
    have hl := paT_len p n
    rw [paT]
    by_cases he : s < n
    · rw [tA_app (by omega)]; exact paT_row p he
    · have e : s = n := by omega
      subst e
      have := @tA_last (paT p s) (paR p s 4)
      rwa [hl] at this
theorem pcR_sm (p : ByteArray) : auSm (pcR p) := by
  unfold pcR
  split
  · rename_i h
    obtain ⟨h1, h2, h3⟩ := paC_ok h
    refine ⟨by show ([(p.size : Int)] : List Int).length ≤ 1048576; simp, by show (paT p (p.size + 1)).length ≤ 1048576; rw [paT_len]; omega, fun r hr => ?_⟩
    obtain ⟨j, hj, rfl⟩ := List.getElem_of_mem hr
    have hj2 : j < p.size + 1 := by have hj3 : j < (paT p (p.size + 1)).length := hj; rwa [paT_len] at hj3
    have := paT_row p hj2
    rw [tA, List.getD, List.getElem?_eq_getElem (by rw [paT_len]; exact hj2)] at this
    have h5 : ((paT p (p.size + 1))[j]'(by rw [paT_len]; exact hj2)) = paR p j 4 := this
    show ((paT p (p.size + 1))[j]'(by rw [paT_len]; exact hj2)).length ≤ 1048576
    rw [h5, paR_len]; omega
  · exact ⟨by simp, by simp, fun r hr => by cases hr⟩
theorem i_PatternAuto (p : ByteArray) (w : World) (hz : p.size ≤ 1048576) :
    Calls Try.prog 18 #[.string p] w fun e w' => ∃ x1 x2 vs, e = .returned (.tuple #[.agg #[.int .i64 (pcR p).st, .int .i64 (pcR p).sa, x1, x2], .int .i64 (paC p)]) ∧ AuR w.heap.size w' x1 x2 vs (pcR p) ∧ Below w.heap.size w w' := by
  have HW := Lib.hid (fun w => i_ValidWord p w (by unfold maxLen; omega))
  have HBX := Lib.hid ((Below.refl w.heap.size w).alloc (Nat.le_refl _) (.cells #[.int .i64 0, .int .i64 0, .slice none 0 0, .slice none 0 0] 43))
  have z0 : (w.alloc (.cells #[.int .i64 0, .int .i64 0, .slice none 0 0, .slice none 0 0] 43)).cell? ⟨w.heap.size, 0, none⟩ = some (.int .i64 0) := by simp [go_sem]
  have z1 : (w.alloc (.cells #[.int .i64 0, .int .i64 0, .slice none 0 0, .slice none 0 0] 43)).cell? ⟨w.heap.size, 1, none⟩ = some (.int .i64 0) := by simp [go_sem]
  have z2 : (w.alloc (.cells #[.int .i64 0, .int .i64 0, .slice none 0 0, .slice none 0 0] 43)).cell? ⟨w.heap.size, 2, none⟩ = some (.slice none 0 0) := by simp [go_sem]
  have z3 : (w.alloc (.cells #[.int .i64 0, .int .i64 0, .slice none 0 0, .slice none 0 0] 43)).cell? ⟨w.heap.size, 3, none⟩ = some (.slice none 0 0) := by simp [go_sem]
  have fz : ∀ j, (w.alloc (.cells #[.int .i64 0, .int .i64 0, .slice none 0 0, .slice none 0 0] 43)).frozen? ⟨w.heap.size, j, none⟩ = false := fun j => by simp [go_sem]
  have hzl : w.heap.size < (w.alloc (.cells #[.int .i64 0, .int .i64 0, .slice none 0 0, .slice none 0 0] 43)).heap.size := by simp
  cases hv : validB p
  · have e1 : paC p = 1 := by simp [paC, hv]
    have e2 : pcR p = ⟨0, 0, [], []⟩ := by simp [pcR, e1]
    rw [e1, e2]
    rw [hv] at HW
    clear e1 e2 hv
    go_enter Try.func18, Try.ntmps18
    go_wp2_with fail
    refine (HW.out _).mono ?_
    rintro e w2 ⟨rfl, rfl⟩
    generalize w.alloc (.cells #[.int .i64 0, .int .i64 0, .slice none 0 0, .slice none 0 0] 43) = w2 at *
    have HP := Lib.hid (put4 (w := w2) (b := w.heap.size) (.int .i64 0) (.int .i64 0) (.slice none 0 0) (.slice none 0 0) z0 z1 z2 z3)
    go_wp2
    have hP := HP.out
    refine bodyPost_ret (v := .tuple #[.agg #[.int .i64 0, .int .i64 0, .slice none 0 0, .slice none 0 0], .int .i64 1]) (by simp [results, Try.results18, go_sem, hP.1, hP.2.1, hP.2.2.1, hP.2.2.2]) rfl ⟨_, _, _, rfl, auR_nil _ _, ?_⟩
    exact (((HBX.out.setCell (p := ⟨w.heap.size, 0, none⟩) (Nat.le_refl _) _).setCell (p := ⟨w.heap.size, 1, none⟩) (Nat.le_refl _) _).setCell (p := ⟨w.heap.size, 2, none⟩) (Nat.le_refl _) _).setCell (p := ⟨w.heap.size, 3, none⟩) (Nat.le_refl _) _
  · have HC := Lib.hid (fun w => i_patternCode p w hv)
    rw [hv] at HW
    by_cases hc : paC p = 0
    · obtain ⟨_, _, h20⟩ := paC_ok hc
      have e2 : pcR p = paA p := by simp [pcR, hc]
      have HA := Lib.hid (fun w => i_patternAuto p w h20)
      rw [e2, hc]
      rw [hc] at HC
      clear e2 hc hv
      go_enter Try.func18, Try.ntmps18
      go_wp2_with fail
      refine (HW.out _).mono ?_
      rintro e w2 ⟨rfl, rfl⟩
      go_wp2_with fail
      refine (HC.out _).mono ?_
      rintro e w2 ⟨rfl, rfl⟩
      go_wp2_with fail
      refine (HA.out _).mono ?_
      rintro e w3 ⟨x1, x2, vs, rfl, hau, hb3⟩
      have y0 := cell_later hb3 z0
      have y1 := cell_later hb3 z1
      have y2 := cell_later hb3 z2
      have y3 := cell_later hb3 z3
      have fy : ∀ j, w3.frozen? ⟨w.heap.size, j, none⟩ = false := fun j => by rw [hb3.frozen (by simp)]; exact fz j
      obtain ⟨ua, uc, rfl⟩ := inI_sl (auR_inI hau)
      obtain ⟨va, vc, rfl⟩ := inT_sl (auR_inT hau)
      have HBF := Lib.hid (HBX.out.trans (hb3.mono HBX.out.size))
      have HAU := Lib.hid hau
      have HP := Lib.hid (put4 (w := w3) (b := w.heap.size) (.int .i64 (paA p).st) (.int .i64 (paA p).sa) (.slice ua (paA p).fi.length uc) (.slice va (paA p).nx.length vc) y0 y1 y2 y3)
      clear hau hb3 z0 z1 z2 z3 fz
      go_wp2
      have hP := HP.out
      refine bodyPost_ret (v := .tuple #[.agg #[.int .i64 (paA p).st, .int .i64 (paA p).sa, .slice ua (paA p).fi.length uc, .slice va (paA p).nx.length vc], .int .i64 0]) (by simp [results, Try.results18, go_sem, hP.1, hP.2.1, hP.2.2.1, hP.2.2.2]) rfl ⟨_, _, vs, rfl, ?_, ?_⟩
      · exact auR_weak (auR_gp (P := fun b => b = w.heap.size) HAU.out (Gp.ofSet.trans (Gp.ofSet.trans (Gp.ofSet.trans Gp.ofSet))) (fun b hb h => by simp at hb; omega)) (by simp)
      · exact (((HBF.out.setCell (p := ⟨w.heap.size, 0, none⟩) (Nat.le_refl _) _).setCell (p := ⟨w.heap.size, 1, none⟩) (Nat.le_refl _) _).setCell (p := ⟨w.heap.size, 2, none⟩) (Nat.le_refl _) _).setCell (p := ⟨w.heap.size, 3, none⟩) (Nat.le_refl _) _
    · have e2 : pcR p = ⟨0, 0, [], []⟩ := by simp [pcR, hc]
      have hne : (paC p != 0) = true := by simpa using hc
      rw [e2]
      generalize paC p = cc at *
      clear e2 hv
      go_enter Try.func18, Try.ntmps18
      go_wp2_with fail
      refine (HW.out _).mono ?_
      rintro e w2 ⟨rfl, rfl⟩
      go_wp2_with fail
      refine (HC.out _).mono ?_
      rintro e w2 ⟨rfl, rfl⟩
      generalize w.alloc (.cells #[.int .i64 0, .int .i64 0, .slice none 0 0, .slice none 0 0] 43) = w2 at *
      have HP := Lib.hid (put4 (w := w2) (b := w.heap.size) (.int .i64 0) (.int .i64 0) (.slice none 0 0) (.slice none 0 0) z0 z1 z2 z3)
      go_wp2
      have hP := HP.out
      refine bodyPost_ret (v := .tuple #[.agg #[.int .i64 0, .int .i64 0, .slice none 0 0, .slice none 0 0], .int .i64 cc]) (by simp [results, Try.results18, go_sem, hP.1, hP.2.1, hP.2.2.1, hP.2.2.2]) rfl ⟨_, _, _, rfl, auR_nil _ _, ?_⟩
      exact (((HBX.out.setCell (p := ⟨w.heap.size, 0, none⟩) (Nat.le_refl _) _).setCell (p := ⟨w.heap.size, 1, none⟩) (Nat.le_refl _) _).setCell (p := ⟨w.heap.size, 2, none⟩) (Nat.le_refl _) _).setCell (p := ⟨w.heap.size, 3, none⟩) (Nat.le_refl _) _
theorem inRu_nil (w : World) : InRu w (.slice none 0 0) [] := .inl ⟨rfl, rfl, none, 0, rfl⟩
theorem s_l04Asked (bq : Nat) (p : ByteArray) (w : World) (hz : p.size ≤ 1048576) (hc : w.cell? ⟨bq, 0, none⟩ = some (.slice none 0 0)) :
    Calls Try.prog 46 #[.pointer (some ⟨bq, 0, none⟩), .string p] w fun e w' => e = .returned (.int .i64 (paC p)) ∧ Below w.heap.size w w' := by
  have HG := Lib.hid (s_l02Ok bq 0 0 none [] w (by simp) (fun r hr => by cases hr) hc (inRu_nil w))
  have hg : gOk [] = true := by decide
  rw [hg] at HG
  have HV := Lib.hid (fun w => s_l01Ok p w (by unfold maxLen; omega))
  clear hc hg
  cases hv : validB p
  · have e : paC p = 1 := by simp [paC, hv]
    rw [e]
    rw [hv] at HV
    clear e hv
    go_enter Try.func46, Try.ntmps46
    go_wp2_with fail
    refine (HG.out).mono ?_
    rintro e w2 ⟨rfl, hb2⟩
    go_wp2_with fail
    refine (HV.out _).mono ?_
    rintro e w3 ⟨rfl, rfl⟩
    go_wp2
    go_ret
    exact ⟨rfl, hb2⟩
  · rw [hv] at HV
    by_cases h0 : p.size = 0
    · have e : paC p = 4 := by simp [paC, hv, h0]
      obtain rfl := size_zero h0
      rw [e]
      clear hv h0 e
      go_enter Try.func46, Try.ntmps46
      go_wp2_with fail
      refine (HG.out).mono ?_
      rintro e w2 ⟨rfl, hb2⟩
      go_wp2_with fail
      refine (HV.out _).mono ?_
      rintro e w3 ⟨rfl, rfl⟩
      go_wp2
      go_ret
      exact ⟨rfl, hb2⟩
    · have hne := neq_empty h0
      have hne2 := not_empty h0
      by_cases h1 : 20 < p.size
      · have e : paC p = 3 := by simp [paC, hv, h0, h1]
        rw [e]
        have hin : (20 : Int) < p.size := by omega
        clear hv h0 e
        go_enter Try.func46, Try.ntmps46
        go_wp2_with fail
        refine (HG.out).mono ?_
        rintro e w2 ⟨rfl, hb2⟩
        go_wp2_with fail
        refine (HV.out _).mono ?_
        rintro e w3 ⟨rfl, rfl⟩
        go_wp2
        go_ret
        exact ⟨rfl, hb2⟩
      · have e : paC p = 0 := by simp [paC, hv, h0, h1]
        rw [e]
        have hin : ¬ (20 : Int) < p.size := by omega
        clear hv h0 e
        go_enter Try.func46, Try.ntmps46
        go_wp2_with fail
        refine (HG.out).mono ?_
        rintro e w2 ⟨rfl, hb2⟩
        go_wp2_with fail
        refine (HV.out _).mono ?_
        rintro e w3 ⟨rfl, rfl⟩
        go_wp2
        go_ret
        exact ⟨rfl, hb2⟩
theorem s_PatternAuto (p : ByteArray) (w : World) (hz : p.size ≤ 1048576) :
    Calls Try.prog 19 #[.string p] w fun e w' => ∃ x1 x2 vs, e = .returned (.tuple #[.agg #[.int .i64 (pcR p).st, .int .i64 (pcR p).sa, x1, x2], .int .i64 (paC p)]) ∧ AuR w.heap.size w' x1 x2 vs (pcR p) ∧ Below w.heap.size w w' := by
  have hbx := ((Below.refl w.heap.size w).alloc (Nat.le_refl _) (.cells #[.int .i64 0, .int .i64 0, .slice none 0 0, .slice none 0 0] 43)).alloc (by simp) (.cells #[.slice none 0 0] 26)
  have HC := Lib.hid (s_l04Asked (w.heap.size + 1) p ((w.alloc (.cells #[.int .i64 0, .int .i64 0, .slice none 0 0, .slice none 0 0] 43)).alloc (.cells #[.slice none 0 0] 26)) hz (by simp [go_sem]))
  have HBX := Lib.hid hbx
  clear hbx
  by_cases hc : paC p = 0
  · obtain ⟨_, _, h20⟩ := paC_ok hc
    have e2 : pcR p = paA p := by simp [pcR, hc]
    have HA := Lib.hid (fun w => s_l04Pattern p w h20)
    rw [e2, hc]
    rw [hc] at HC
    clear e2 hc
    go_enter Try.func19, Try.ntmps19
    go_wp2_with fail
    refine (HC.out).mono ?_
    rintro e w2 ⟨rfl, hb2⟩
    have z0 : w2.cell? ⟨w.heap.size, 0, none⟩ = some (.int .i64 0) := by rw [hb2.cell (by first | (simp; done) | (simp; omega))]; simp [go_sem]
    have z1 : w2.cell? ⟨w.heap.size, 1, none⟩ = some (.int .i64 0) := by rw [hb2.cell (by first | (simp; done) | (simp; omega))]; simp [go_sem]
    have z2 : w2.cell? ⟨w.heap.size, 2, none⟩ = some (.slice none 0 0) := by rw [hb2.cell (by first | (simp; done) | (simp; omega))]; simp [go_sem]
    have z3 : w2.cell? ⟨w.heap.size, 3, none⟩ = some (.slice none 0 0) := by rw [hb2.cell (by first | (simp; done) | (simp; omega))]; simp [go_sem]
    have fz : ∀ j, w2.frozen? ⟨w.heap.size, j, none⟩ = false := fun j => by rw [hb2.frozen (by first | (simp; done) | (simp; omega))]; simp [go_sem]
    have hzl : w.heap.size < w2.heap.size := World.block_lt_of_cell? _ _ z0
    have HB2 := Lib.hid (HBX.out.trans (hb2.mono HBX.out.size))
    clear hb2
    go_wp2_with fail
    refine (HA.out _).mono ?_
    rintro e w3 ⟨x1, x2, vs, rfl, hau, hb3⟩
    have y0 := cell_later hb3 z0
    have y1 := cell_later hb3 z1
    have y2 := cell_later hb3 z2
    have y3 := cell_later hb3 z3
    have fy : ∀ j, w3.frozen? ⟨w.heap.size, j, none⟩ = false := fun j => by rw [hb3.frozen (by simpa using hzl)]; exact fz j
    obtain ⟨ua, uc, rfl⟩ := inI_sl (auR_inI hau)
    obtain ⟨va, vc, rfl⟩ := inT_sl (auR_inT hau)
    have HBF := Lib.hid (HB2.out.trans (hb3.mono HB2.out.size))
    have HAU := Lib.hid hau
    have HP := Lib.hid (put4 (w := w3) (b := w.heap.size) (.int .i64 (paA p).st) (.int .i64 (paA p).sa) (.slice ua (paA p).fi.length uc) (.slice va (paA p).nx.length vc) y0 y1 y2 y3)
    clear hau hb3 z0 z1 z2 z3 fz
    go_wp2
    have hP := HP.out
    refine bodyPost_ret (v := .tuple #[.agg #[.int .i64 (paA p).st, .int .i64 (paA p).sa, .slice ua (paA p).fi.length uc, .slice va (paA p).nx.length vc], .int .i64 0]) (by simp [results, Try.results19, go_sem, hP.1, hP.2.1, hP.2.2.1, hP.2.2.2]) rfl ⟨_, _, vs, rfl, ?_, ?_⟩
    · exact auR_weak (auR_gp (P := fun b => b = w.heap.size) HAU.out (Gp.ofSet.trans (Gp.ofSet.trans (Gp.ofSet.trans Gp.ofSet))) (fun b hb h => by omega)) (by omega)
    · exact (((HBF.out.setCell (p := ⟨w.heap.size, 0, none⟩) (Nat.le_refl _) _).setCell (p := ⟨w.heap.size, 1, none⟩) (Nat.le_refl _) _).setCell (p := ⟨w.heap.size, 2, none⟩) (Nat.le_refl _) _).setCell (p := ⟨w.heap.size, 3, none⟩) (Nat.le_refl _) _
  · have e2 : pcR p = ⟨0, 0, [], []⟩ := by simp [pcR, hc]
    have hne : (paC p != 0) = true := by simpa using hc
    rw [e2]
    generalize paC p = cc at *
    clear e2
    go_enter Try.func19, Try.ntmps19
    go_wp2_with fail
    refine (HC.out).mono ?_
    rintro e w2 ⟨rfl, hb2⟩
    have z0 : w2.cell? ⟨w.heap.size, 0, none⟩ = some (.int .i64 0) := by rw [hb2.cell (by first | (simp; done) | (simp; omega))]; simp [go_sem]
    have z1 : w2.cell? ⟨w.heap.size, 1, none⟩ = some (.int .i64 0) := by rw [hb2.cell (by first | (simp; done) | (simp; omega))]; simp [go_sem]
    have z2 : w2.cell? ⟨w.heap.size, 2, none⟩ = some (.slice none 0 0) := by rw [hb2.cell (by first | (simp; done) | (simp; omega))]; simp [go_sem]
    have z3 : w2.cell? ⟨w.heap.size, 3, none⟩ = some (.slice none 0 0) := by rw [hb2.cell (by first | (simp; done) | (simp; omega))]; simp [go_sem]
    have fz : ∀ j, w2.frozen? ⟨w.heap.size, j, none⟩ = false := fun j => by rw [hb2.frozen (by first | (simp; done) | (simp; omega))]; simp [go_sem]
    have HB2 := Lib.hid (HBX.out.trans (hb2.mono HBX.out.size))
    have HP := Lib.hid (put4 (w := w2) (b := w.heap.size) (.int .i64 0) (.int .i64 0) (.slice none 0 0) (.slice none 0 0) z0 z1 z2 z3)
    clear hb2
    go_wp2
    have hP := HP.out
    refine bodyPost_ret (v := .tuple #[.agg #[.int .i64 0, .int .i64 0, .slice none 0 0, .slice none 0 0], .int .i64 cc]) (by simp [results, Try.results19, go_sem, hP.1, hP.2.1, hP.2.2.1, hP.2.2.2]) rfl ⟨_, _, _, rfl, auR_nil _ _, ?_⟩
    exact (((HB2.out.setCell (p := ⟨w.heap.size, 0, none⟩) (Nat.le_refl _) _).setCell (p := ⟨w.heap.size, 1, none⟩) (Nat.le_refl _) _).setCell (p := ⟨w.heap.size, 2, none⟩) (Nat.le_refl _) _).setCell (p := ⟨w.heap.size, 3, none⟩) (Nat.le_refl _) _
end Go.Proofs.Ytimfbnjgodbgoaa
