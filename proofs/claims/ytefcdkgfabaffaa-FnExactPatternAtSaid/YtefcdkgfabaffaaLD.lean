/- BothAuto of the reference. -/
import Derived.Test.YtefcdkgfabaffaaLC
namespace Go.Proofs.Ytefcdkgfabaffaa
open Go.ChangeShapes Go.WideShapes Go.RowKit
set_option linter.unusedVariables false
set_option linter.unusedSimpArgs false
set_option maxHeartbeats 4000000
set_option maxRecDepth 100000
theorem below_qt {w w' : World} (h : Qt w w') : Below w.heap.size w w' := by
  obtain ⟨q, rfl⟩ := h
  exact below_drewN (Below.refl _ _) q
theorem bl_alloc {w Y : World} {o : Obj} (h : Below w.heap.size w Y) : Below w.heap.size w (Y.alloc o) := h.alloc h.size o
theorem bl_tr {w Y Z : World} (h : Below w.heap.size w Y) (k : Below Y.heap.size Y Z) : Below w.heap.size w Z := h.trans (k.mono h.size)
theorem bl_set {w Y L : World} {j : Nat} {v : Value} (h : Below w.heap.size w Y) (k : Below w.heap.size w L) : Below w.heap.size w (Y.setCell ⟨L.heap.size, j, none⟩ v) := h.setCell (p := ⟨L.heap.size, j, none⟩) k.size v
theorem share_both {P : Prop} (F : Nat → World → Option Addr → Nat → Option Addr → Nat → List Value → Prop) {G : Nat → Nat → Nat → Nat → Nat → World → Option Addr → Nat → Option Addr → Nat → List Value → Prop} (h : (∀ a b c d x w i j k l m, F x w i j k l m → G a b c d x w i j k l m) → P) (rest : ∀ a b c d x w i j k l m, F x w i j k l m → G a b c d x w i j k l m) : P := h rest
theorem gen_then {K : Act → World → Prop} {Q : Exit → Act → World → Prop} {a : Act} {w' : World} (P : World → Prop) (h : P w') (k : ∀ w2, P w2 → Exit.then K Q .normal a w2) : Exit.then K Q .normal a w' := k w' h
theorem put4n (w : World) {b t : Nat} (v0 v1 v2 v3 : Value) (hb : b = w.heap.size) : (w.alloc (.cells #[v0, v1, v2, v3] t)).cell? ⟨b, 0, none⟩ = some v0 ∧ (w.alloc (.cells #[v0, v1, v2, v3] t)).cell? ⟨b, 1, none⟩ = some v1 ∧ (w.alloc (.cells #[v0, v1, v2, v3] t)).cell? ⟨b, 2, none⟩ = some v2 ∧ (w.alloc (.cells #[v0, v1, v2, v3] t)).cell? ⟨b, 3, none⟩ = some v3 := by
  subst hb
  exact ⟨by simp [go_sem], by simp [go_sem], by simp [go_sem], by simp [go_sem]⟩
theorem below_eq {b : Nat} {w W : World} (hb : b = w.heap.size) (h : Below b w W) : Below w.heap.size w W := by subst hb; exact h
theorem bl_hv {P Q : Prop} (h : P) (k : P → Q) : Q := k h
theorem bl_size {w Y : World} (h : Below w.heap.size w Y) : w.heap.size ≤ Y.heap.size := h.size
theorem s_BothAuto (v1 v2 v3 v4 : Value) (a b : Au) (w : World) (hs : auSm a) (hs2 : auSm b) (h1 : InI w v1 a.fi) (h2 : InT w v2 a.nx) (h3 : InI w v3 b.fi) (h4 : InT w v4 b.nx) :
    Calls Try.prog 33 #[.agg #[.int .i64 a.st, .int .i64 a.sa, v1, v2], .agg #[.int .i64 b.st, .int .i64 b.sa, v3, v4]] w fun e w' => ∃ x1 x2 vs, e = .returned (.tuple #[.agg #[.int .i64 (boR a b).st, .int .i64 (boR a b).sa, x1, x2], .int .i64 (boC a b)]) ∧ AuR w.heap.size w' x1 x2 vs (boR a b) ∧ Below w.heap.size w w' := by
  obtain ⟨a1, k1, rfl⟩ := inI_sl h1
  obtain ⟨a2, k2, rfl⟩ := inT_sl h2
  obtain ⟨a3, k3, rfl⟩ := inI_sl h3
  obtain ⟨a4, k4, rfl⟩ := inT_sl h4
  have hbx := (((Below.refl w.heap.size w).alloc (Nat.le_refl _) (.cells #[.int .i64 a.st, .int .i64 a.sa, .slice a1 a.fi.length k1, .slice a2 a.nx.length k2] 28)).alloc (by simp) (.cells #[.int .i64 b.st, .int .i64 b.sa, .slice a3 b.fi.length k3, .slice a4 b.nx.length k4] 28)).alloc (by first | (simp; done) | (simp; omega)) (.cells #[.int .i64 0, .int .i64 0, .slice none 0 0, .slice none 0 0] 28)
  have HV := Lib.hid (s_l04Ok w.heap.size 0 _ _ a _ hs (by simp [go_sem]) (by simp [go_sem]) (by simp [go_sem]) (by simp [go_sem]) (inI_below h1 hbx) (inT_below h2 hbx))
  have HVB := Lib.hid (fun W d0 d1 d2 d3 i1 i2 => s_l04Ok (w.heap.size + 1) 0 (.slice a3 b.fi.length k3) (.slice a4 b.nx.length k4) b W hs2 d0 d1 d2 d3 i1 i2)
  have HI1 := Lib.hid (inI_below h1 hbx)
  have HI2 := Lib.hid (inT_below h2 hbx)
  have HI3 := Lib.hid (inI_below h3 hbx)
  have HI4 := Lib.hid (inT_below h4 hbx)
  have HBX := Lib.hid hbx
  clear h1 h2 h3 h4 hbx
  cases hao : auOk a
  · have e1 : boR a b = ⟨0, 0, [], []⟩ := by rw [boR, hao]; simp
    have e2 : boC a b = 1 := by rw [boC, hao]; simp
    rw [e1, e2]
    rw [hao] at HV
    clear e1 e2 hao HI1 HI2 HI3 HI4 HVB hs hs2
    go_enter Try.func33, Try.ntmps33
    go_wp2_with fail
    refine (HV.out).mono ?_
    rintro e w2 ⟨rfl, hqt⟩
    have hb2 := below_qt hqt
    clear hqt
    have HBB := Lib.hid (HBX.out.trans (hb2.mono HBX.out.size))
    have z0 : w2.cell? ⟨w.heap.size + 1 + 1, 0, none⟩ = some (.int .i64 0) := by rw [hb2.cell (by first | (simp; done) | (simp; omega))]; simp [go_sem]
    have z1 : w2.cell? ⟨w.heap.size + 1 + 1, 1, none⟩ = some (.int .i64 0) := by rw [hb2.cell (by first | (simp; done) | (simp; omega))]; simp [go_sem]
    have z2 : w2.cell? ⟨w.heap.size + 1 + 1, 2, none⟩ = some (.slice none 0 0) := by rw [hb2.cell (by first | (simp; done) | (simp; omega))]; simp [go_sem]
    have z3 : w2.cell? ⟨w.heap.size + 1 + 1, 3, none⟩ = some (.slice none 0 0) := by rw [hb2.cell (by first | (simp; done) | (simp; omega))]; simp [go_sem]
    have fz : ∀ j, w2.frozen? ⟨w.heap.size + 1 + 1, j, none⟩ = false := fun j => by rw [hb2.frozen (by first | (simp; done) | (simp; omega))]; simp [go_sem]
    clear hb2 HV HBX
    have HP := Lib.hid (put4 (w := w2) (b := w.heap.size + 1 + 1) (.int .i64 0) (.int .i64 0) (.slice none 0 0) (.slice none 0 0) z0 z1 z2 z3)
    go_wp2
    have hP := HP.out
    refine bodyPost_ret (v := .tuple #[.agg #[.int .i64 0, .int .i64 0, .slice none 0 0, .slice none 0 0], .int .i64 1]) (by simp [results, Try.results33, go_sem, hP.1, hP.2.1, hP.2.2.1, hP.2.2.2]) rfl ⟨_, _, _, rfl, auR_nil _ _, ?_⟩
    exact (((HBB.out.setCell (p := ⟨w.heap.size + 1 + 1, 0, none⟩) (by first | (simp; done) | (simp; omega)) _).setCell (p := ⟨w.heap.size + 1 + 1, 1, none⟩) (by first | (simp; done) | (simp; omega)) _).setCell (p := ⟨w.heap.size + 1 + 1, 2, none⟩) (by first | (simp; done) | (simp; omega)) _).setCell (p := ⟨w.heap.size + 1 + 1, 3, none⟩) (by first | (simp; done) | (simp; omega)) _
  · rw [hao] at HV
    cases hbo : auOk b
    · have e1 : boR a b = ⟨0, 0, [], []⟩ := by rw [boR, hbo]; simp
      have e2 : boC a b = 1 := by rw [boC, hbo]; simp
      rw [e1, e2]
      rw [hbo] at HVB
      clear e1 e2 hao hbo HI1 HI2 hs hs2
      go_enter Try.func33, Try.ntmps33
      go_wp2_with fail
      refine (HV.out).mono ?_
      rintro e w2 ⟨rfl, hqt⟩
      have hb2 := below_qt hqt
      clear hqt
      have d0 : w2.cell? ⟨w.heap.size + 1, 0, none⟩ = some (.int .i64 b.st) := by rw [hb2.cell (by first | (simp; done) | (simp; omega))]; simp [go_sem]
      have d1 : w2.cell? ⟨w.heap.size + 1, 1, none⟩ = some (.int .i64 b.sa) := by rw [hb2.cell (by first | (simp; done) | (simp; omega))]; simp [go_sem]
      have d2 : w2.cell? ⟨w.heap.size + 1, 2, none⟩ = some (.slice a3 b.fi.length k3) := by rw [hb2.cell (by first | (simp; done) | (simp; omega))]; simp [go_sem]
      have d3 : w2.cell? ⟨w.heap.size + 1, 3, none⟩ = some (.slice a4 b.nx.length k4) := by rw [hb2.cell (by first | (simp; done) | (simp; omega))]; simp [go_sem]
      have i3 := inI_below HI3.out hb2
      have i4 := inT_below HI4.out hb2
      go_wp2_with fail
      refine (HVB.out _ d0 d1 d2 d3 i3 i4).mono ?_
      rintro e w3 ⟨rfl, hqt⟩
      have hb3' := below_qt hqt
      clear hqt
      have hb3 := hb2.trans (hb3'.mono hb2.size)
      have HBB := Lib.hid (HBX.out.trans (hb3.mono HBX.out.size))
      have z0 : w3.cell? ⟨w.heap.size + 1 + 1, 0, none⟩ = some (.int .i64 0) := by rw [hb3.cell (by first | (simp; done) | (simp; omega))]; simp [go_sem]
      have z1 : w3.cell? ⟨w.heap.size + 1 + 1, 1, none⟩ = some (.int .i64 0) := by rw [hb3.cell (by first | (simp; done) | (simp; omega))]; simp [go_sem]
      have z2 : w3.cell? ⟨w.heap.size + 1 + 1, 2, none⟩ = some (.slice none 0 0) := by rw [hb3.cell (by first | (simp; done) | (simp; omega))]; simp [go_sem]
      have z3 : w3.cell? ⟨w.heap.size + 1 + 1, 3, none⟩ = some (.slice none 0 0) := by rw [hb3.cell (by first | (simp; done) | (simp; omega))]; simp [go_sem]
      have fz : ∀ j, w3.frozen? ⟨w.heap.size + 1 + 1, j, none⟩ = false := fun j => by rw [hb3.frozen (by first | (simp; done) | (simp; omega))]; simp [go_sem]
      clear hb2 hb3 hb3' i3 i4 HI3 HI4 HV HVB HBX d0 d1 d2 d3
      have HP := Lib.hid (put4 (w := w3) (b := w.heap.size + 1 + 1) (.int .i64 0) (.int .i64 0) (.slice none 0 0) (.slice none 0 0) z0 z1 z2 z3)
      go_wp2
      have hP := HP.out
      refine bodyPost_ret (v := .tuple #[.agg #[.int .i64 0, .int .i64 0, .slice none 0 0, .slice none 0 0], .int .i64 1]) (by simp [results, Try.results33, go_sem, hP.1, hP.2.1, hP.2.2.1, hP.2.2.2]) rfl ⟨_, _, _, rfl, auR_nil _ _, ?_⟩
      exact (((HBB.out.setCell (p := ⟨w.heap.size + 1 + 1, 0, none⟩) (by first | (simp; done) | (simp; omega)) _).setCell (p := ⟨w.heap.size + 1 + 1, 1, none⟩) (by first | (simp; done) | (simp; omega)) _).setCell (p := ⟨w.heap.size + 1 + 1, 2, none⟩) (by first | (simp; done) | (simp; omega)) _).setCell (p := ⟨w.heap.size + 1 + 1, 3, none⟩) (by first | (simp; done) | (simp; omega)) _
    · rw [hbo] at HVB
      obtain ⟨f1, f2, f3, f4, f5⟩ := auOk_facts hao
      obtain ⟨g1, g2, g3, g4, g5⟩ := auOk_facts hbo
      have hpr : 0 ≤ a.st * b.st := Int.mul_nonneg (by omega) (by omega)
      have hpr2 : a.st * b.st ≤ 24 * 24 := Int.mul_le_mul (by omega) (by omega) (by omega) (by omega)
      have hw : IntKind.i64.wrap (a.st * b.st) = a.st * b.st := IntWalk.i64_in _ (by omega)
      by_cases h24 : a.st * b.st ≤ 24
      · have e1 : boR a b = baA a b := by rw [boR, if_pos ⟨by rw [hao, hbo]; rfl, h24⟩]
        have e2 : boC a b = 0 := by rw [boC, hao, hbo]; simp [h24]
        rw [e1, e2]
        have hsa : 0 ≤ a.sa * b.st ∧ a.sa * b.st ≤ 24 := by
          have h5 : a.sa * b.st ≤ a.st * b.st := Int.mul_le_mul_of_nonneg_right (by omega) (by omega)
          have h6 : 0 ≤ a.sa * b.st := Int.mul_nonneg (by omega) (by omega)
          omega
        have hw2 : IntKind.i64.wrap (a.sa * b.st) = a.sa * b.st := IntWalk.i64_in _ (by omega)
        have hw3 : IntKind.i64.wrap (a.sa * b.st + b.sa) = a.sa * b.st + b.sa := IntWalk.i64_in _ (by omega)
        have HFA := Lib.hid (fun p q c hp hq hc => @bo_facts a b hao hbo h24 p q c hp hq hc)
        have HR4 := Lib.hid (fun k hk => (f5 k hk).1)
        have HR4b := Lib.hid (fun k hk => (g5 k hk).1)
        have HC1 := Lib.hid (fun x W h => s_l00Has (.slice a1 a.fi.length k1) a.fi x W hs.1 h)
        have HC3 := Lib.hid (fun x W h => s_l00Has (.slice a3 b.fi.length k3) b.fi x W hs2.1 h)
        have HM := Lib.hid f4
        have HN := Lib.hid g4
        have hgt : ¬ 24 < a.st * b.st := by omega
        have hm24 : a.nx.length ≤ 24 := by omega
        have hn24 : b.nx.length ≤ 24 := by omega
        have HMNE : Hid (((a.nx.length * b.nx.length : Nat) : Int) = a.st * b.st) := by show _ = _; rw [Int.natCast_mul, f4, g4]
        have HMN : Hid (a.nx.length * b.nx.length ≤ 24) := by
          have : ((a.nx.length * b.nx.length : Nat) : Int) ≤ 24 := by rw [Int.natCast_mul, f4, g4]; exact h24
          show _ ≤ _
          omega
        clear e1 e2 hao hbo hs hs2 f1 f2 f3 f4 f5 g1 g2 g3 g4 g5 hpr hpr2 hsa h24
        go_enter Try.func33, Try.ntmps33
        go_wp2_with fail
        refine (HV.out).mono ?_
        rintro e w2 ⟨rfl, hqt⟩
        have hb2 := below_qt hqt
        clear hqt
        have d0 : w2.cell? ⟨w.heap.size + 1, 0, none⟩ = some (.int .i64 b.st) := by rw [hb2.cell (by first | (simp; done) | (simp; omega))]; simp [go_sem]
        have d1 : w2.cell? ⟨w.heap.size + 1, 1, none⟩ = some (.int .i64 b.sa) := by rw [hb2.cell (by first | (simp; done) | (simp; omega))]; simp [go_sem]
        have d2 : w2.cell? ⟨w.heap.size + 1, 2, none⟩ = some (.slice a3 b.fi.length k3) := by rw [hb2.cell (by first | (simp; done) | (simp; omega))]; simp [go_sem]
        have d3 : w2.cell? ⟨w.heap.size + 1, 3, none⟩ = some (.slice a4 b.nx.length k4) := by rw [hb2.cell (by first | (simp; done) | (simp; omega))]; simp [go_sem]
        have i3 := inI_below HI3.out hb2
        have i4 := inT_below HI4.out hb2
        go_wp2_with fail
        refine (HVB.out _ d0 d1 d2 d3 i3 i4).mono ?_
        rintro e w3 ⟨rfl, hqt⟩
        have hb3' := below_qt hqt
        clear hqt
        have hb3 := hb2.trans (hb3'.mono hb2.size)
        have HBB := Lib.hid (HBX.out.trans (hb3.mono HBX.out.size))
        clear d0 d1 d2 d3
        have z0 : w3.cell? ⟨w.heap.size + 1 + 1, 0, none⟩ = some (.int .i64 0) := by rw [hb3.cell (by first | (simp; done) | (simp; omega))]; simp [go_sem]
        have z1 : w3.cell? ⟨w.heap.size + 1 + 1, 1, none⟩ = some (.int .i64 0) := by rw [hb3.cell (by first | (simp; done) | (simp; omega))]; simp [go_sem]
        have z2 : w3.cell? ⟨w.heap.size + 1 + 1, 2, none⟩ = some (.slice none 0 0) := by rw [hb3.cell (by first | (simp; done) | (simp; omega))]; simp [go_sem]
        have z3 : w3.cell? ⟨w.heap.size + 1 + 1, 3, none⟩ = some (.slice none 0 0) := by rw [hb3.cell (by first | (simp; done) | (simp; omega))]; simp [go_sem]
        have fz : ∀ j, w3.frozen? ⟨w.heap.size + 1 + 1, j, none⟩ = false := fun j => by rw [hb3.frozen (by first | (simp; done) | (simp; omega))]; simp [go_sem]
        have c0 : w3.cell? ⟨w.heap.size, 0, none⟩ = some (.int .i64 a.st) := by rw [hb3.cell (by first | (simp; done) | (simp; omega))]; simp [go_sem]
        have c1 : w3.cell? ⟨w.heap.size, 1, none⟩ = some (.int .i64 a.sa) := by rw [hb3.cell (by first | (simp; done) | (simp; omega))]; simp [go_sem]
        have c2 : w3.cell? ⟨w.heap.size, 2, none⟩ = some (.slice a1 a.fi.length k1) := by rw [hb3.cell (by first | (simp; done) | (simp; omega))]; simp [go_sem]
        have c3 : w3.cell? ⟨w.heap.size, 3, none⟩ = some (.slice a2 a.nx.length k2) := by rw [hb3.cell (by first | (simp; done) | (simp; omega))]; simp [go_sem]
        have d0 : w3.cell? ⟨w.heap.size + 1, 0, none⟩ = some (.int .i64 b.st) := by rw [hb3.cell (by first | (simp; done) | (simp; omega))]; simp [go_sem]
        have d1 : w3.cell? ⟨w.heap.size + 1, 1, none⟩ = some (.int .i64 b.sa) := by rw [hb3.cell (by first | (simp; done) | (simp; omega))]; simp [go_sem]
        have d2 : w3.cell? ⟨w.heap.size + 1, 2, none⟩ = some (.slice a3 b.fi.length k3) := by rw [hb3.cell (by first | (simp; done) | (simp; omega))]; simp [go_sem]
        have d3 : w3.cell? ⟨w.heap.size + 1, 3, none⟩ = some (.slice a4 b.nx.length k4) := by rw [hb3.cell (by first | (simp; done) | (simp; omega))]; simp [go_sem]
        have j1 := Lib.hid (inI_below HI1.out hb3)
        have j2 := Lib.hid (inT_below HI2.out hb3)
        have j3 := Lib.hid (inI_below HI3.out hb3)
        have j4 := Lib.hid (inT_below HI4.out hb3)
        have hw3s : w.heap.size + 1 + 1 < w3.heap.size := World.block_lt_of_cell? _ _ z0
        clear hb2 hb3' hb3 i3 i4 HI1 HI2 HI3 HI4 HV HVB HBX
        have q0 : ∀ o, (w3.alloc o).cell? ⟨w.heap.size, 0, none⟩ = some (.int .i64 a.st) := fun o => cell_later ((Below.refl _ _).alloc (Nat.le_refl _) o) c0
        have HC0 := Lib.hid c0
        have HD0c := Lib.hid d0
        have HC1c := Lib.hid c2
        have HC3c := Lib.hid c3
        have HD1c := Lib.hid d2
        have HD3c := Lib.hid d3
        have HZ : Hid (w3.cell? ⟨w.heap.size + 1 + 1, 0, none⟩ = some (.int .i64 0) ∧ w3.cell? ⟨w.heap.size + 1 + 1, 1, none⟩ = some (.int .i64 0) ∧ w3.cell? ⟨w.heap.size + 1 + 1, 2, none⟩ = some (.slice none 0 0) ∧ w3.cell? ⟨w.heap.size + 1 + 1, 3, none⟩ = some (.slice none 0 0)) := ⟨z0, z1, z2, z3⟩
        have HFZ := Lib.hid fz
        clear z0 z1 z2 z3 fz
        go_wp2
        clear q0 c0 c1 c2 c3 d0 d1 d2 d3
        refine gen_world2 (fun wz => baI a b w3 w3.heap.size [] [] (.slice none 0 0) (.slice none 0 0) [] wz) (baI_zero a b w3) ?_
        intro wz hz
        obtain ⟨bx, hbx⟩ : ∃ x, x = w3.heap.size := ⟨_, rfl⟩
        rw [← hbx] at hz ⊢
        have HF0 := Lib.hid hz
        clear hz hbx
        have hne0 : ¬ w.heap.size = bx := by have := HF0.out.2.2.2.2.1; omega
        have hne1 : ¬ w.heap.size + 1 = bx := by have := HF0.out.2.2.2.2.1; omega
        have hne2 : ¬ bx = w.heap.size := fun e => hne0 e.symm
        have hne3 : ¬ bx = w.heap.size + 1 := fun e => hne1 e.symm
        go_loopw [7, 8, 9, 10, 11] (fun i _ _ _ _ wr => ∃ x : Nat, x ≤ a.nx.length * b.nx.length ∧ i = .int .i64 x ∧ ∃ f v vs, baI a b w3 bx (baF a b x) (baT a b x) f v vs wr) (fun i _ _ _ _ _ => a.nx.length * b.nx.length - (intOf i).toNat)
        case atStart => exact ⟨0, by omega, rfl, _, _, _, HF0.out⟩
        case round =>
          obtain ⟨x, hx, rfl, f, v, vs, hF⟩ := hrel
          have HF := Lib.hid hF
          have e0 := hF.2.1.1
          have e1 := cell_later hF.1 HD0c.out
          clear hF
          by_cases hlt : x < a.nx.length * b.nx.length
          · have hin : decide ((x : Int) < a.st * b.st) = true := by rw [decide_eq_true_iff, ← HMNE.out]; omega
            obtain ⟨p, hdv⟩ : ∃ p, x / b.nx.length = p := ⟨_, rfl⟩
            obtain ⟨q, hmd⟩ : ∃ q, x % b.nx.length = q := ⟨_, rfl⟩
            have hn0 : 0 < b.nx.length := by
              rcases Nat.eq_zero_or_pos b.nx.length with h | h
              · rw [h, Nat.mul_zero] at hlt; omega
              · exact h
            have hpl : p < a.nx.length := by rw [← hdv]; exact Nat.div_lt_of_lt_mul (by rw [Nat.mul_comm]; exact hlt)
            have hql : q < b.nx.length := by rw [← hmd]; exact Nat.mod_lt _ hn0
            have hqo : (x : Int).tdiv b.st = (p : Int) := by rw [← HN.out, ← hdv]; rfl
            have hre : (x : Int).tmod b.st = (q : Int) := by rw [← HN.out, ← hmd]; rfl
            have hb0 : ¬ b.st = 0 := by have := HN.out; omega
            have hx24 : x < 24 := by have := HMN.out; omega
            have hwx : IntKind.i64.wrap (p : Int) = (p : Int) := IntWalk.i64_in _ (by omega)
            have HH : Hid (baH a b x = (a.fi.contains (p : Int) && b.fi.contains (q : Int))) := by show _ = _; rw [baH, hdv, hmd]
            have HE : Hid (∀ c, baR a b x (c + 1) = baR a b x c ++ [(tA a.nx p).getD c 0 * b.st + (tA b.nx q).getD c 0]) := fun c => by rw [baR, baE, hdv, hmd]
            have HRL := Lib.hid (baR_len a b x)
            have HTX : Hid (baT a b (x + 1) = baT a b x ++ [baR a b x 4]) := rfl
            have HTL := Lib.hid (baT_len a b x)
            have HFL := Lib.hid (baF_len a b x)
            have HFX : Hid (baF a b (x + 1) = baF a b x ++ (if baH a b x = true then [(x : Int)] else [])) := rfl
            have HR0 : Hid (baR a b x 0 = []) := rfl
            clear hdv hmd hn0
            obtain ⟨wi, rfl⟩ : ∃ wi, wi = wr := ⟨_, rfl⟩
            have hwi3 := HF.out.1.size
            go_wp2
            go_loopw [10, 11] (fun o i wr => Below wi.heap.size wi wr ∧ ∃ c : Nat, c ≤ 4 ∧ i = .int .i64 c ∧ wr.ownsRow wi.heap.size 2 1 o c (iv (baR a b x c))) (fun _ i _ => 4 - (intOf i).toNat)
            case atStart => exact ⟨(Below.refl _ _).alloc (Nat.le_refl _) _, 0, by omega, rfl, by rw [HR0.out]; exact own_nil64 (Nat.le_refl _)⟩
            case round =>
              obtain ⟨hb2, c, hc, rfl, hro⟩ := hrel
              have HB2 := Lib.hid hb2
              have hqs := hb2.size
              by_cases hc4 : c < 4
              · have hci : (c : Int) < 4 := by omega
                have HBI := Lib.hid HF.out.1
                obtain ⟨bt, ot, rfl, hlt0, hall⟩ := inT_all (inT_below j2.out HBI.out) (by omega)
                obtain ⟨rp, cp, hcp, hip⟩ := hall p hpl
                obtain ⟨gp, fp, rfl, hlt1, hvp⟩ := inI_at hip (show c < (tA a.nx p).length by rw [HR4.out p hpl]; exact hc4)
                rw [HR4.out p hpl] at hcp
                obtain ⟨bu, ou, rfl, hlt2, hallb⟩ := inT_all (inT_below j4.out HBI.out) (by omega)
                obtain ⟨rq, cq, hcq, hiq⟩ := hallb q hql
                obtain ⟨gq, fq, rfl, hlt3, hvq⟩ := inI_at hiq (show c < (tA b.nx q).length by rw [HR4b.out q hql]; exact hc4)
                rw [HR4b.out q hql] at hcq
                have e2 := cell_later hb2 e1
                have e3 := cell_later hb2 (cell_later HBI.out HC3c.out)
                have e4 := cell_later hb2 (cell_later HBI.out HD3c.out)
                have hcp2 := cell_later hb2 hcp
                have hvp2 := cell_later hb2 hvp
                have hcq2 := cell_later hb2 hcq
                have hvq2 := cell_later hb2 hvq
                have hltp := World.block_lt_of_cell? _ _ hcp
                have hltq := World.block_lt_of_cell? _ _ hcq
                obtain ⟨⟨n1, n2⟩, n3, n4, n5⟩ := HFA.out p q c hpl hql hc4
                have hpI : (p : Int) < a.nx.length := by omega
                have hqI : (q : Int) < b.nx.length := by omega
                have HEC := Lib.hid (HE.out c)
                have hwz1 : IntKind.i64.wrap ((tA a.nx p).getD c 0 * b.st) = (tA a.nx p).getD c 0 * b.st := IntWalk.i64_in _ (by omega)
                have hwz2 : IntKind.i64.wrap ((tA a.nx p).getD c 0 * b.st + (tA b.nx q).getD c 0) = (tA a.nx p).getD c 0 * b.st + (tA b.nx q).getD c 0 := IntWalk.i64_in _ (by omega)
                have hro2 := hro
                clear hall hallb hip hiq hcp hvp hcq hvq hro hb2 n1 n2 n3 n4 n5 HF hin e0 e1 hqo hre hb0 hwx
                generalize (tA a.nx p).getD c 0 = z1 at *
                generalize (tA b.nx q).getD c 0 = z2 at *
                go_wp2
                go_region_held3 (fun w' => w'.cell? ⟨w.heap.size + 1, 0, none⟩ = some (.int .i64 b.st) ∧ w'.cell? ⟨w.heap.size, 3, none⟩ = some (.slice (some ⟨bt, ot, none⟩) a.nx.length k2) ∧ w'.cell? ⟨w.heap.size + 1, 3, none⟩ = some (.slice (some ⟨bu, ou, none⟩) b.nx.length k4) ∧ w'.cell? ⟨bt, ot + p, none⟩ = some (.slice (some ⟨gp, fp, none⟩) 4 cp) ∧ w'.cell? ⟨bu, ou + q, none⟩ = some (.slice (some ⟨gq, fq, none⟩) 4 cq) ∧ w'.cell? ⟨gp, fp + c, none⟩ = some (.int .i64 z1) ∧ w'.cell? ⟨gq, fq + c, none⟩ = some (.int .i64 z2))
                  (first | go_keep | (go_split_ands; refine ⟨?_, ?_, ?_, ?_, ?_, ?_, ?_⟩ <;> (rw [hb7.cell (by first | (simp; done) | (simp; omega))]; assumption)))
                  ((refine step_app_i64 (by rfl) _ _ (by rfl) wi.heap.size _ u10 c (iv (baR a b x c)) (z1 * b.st + z2) (by rfl) (by first | exact ownsRow_drew (hro2.alloc _) | exact (ownsRow_drew hro2).alloc _ | exact ownsRow_drew ((ownsRow_drew hro2).alloc _)) wr.heap.size (by rfl) (by simp [go_sem]) (by omega) (by simp; omega) ?_; intro v' w4 ho4 hb7 hsz4 hgr4))
                have hb8 : Below wi.heap.size wr w4 := by
                  refine Below.trans ?_ hb7
                  first | exact ((Below.refl _ _).alloc (by omega) _).drew | exact ((Below.refl _ _).drew.alloc (by simp; omega) _) | exact ((Below.refl _ _).drew.alloc (by simp; omega) _).drew
                have HB6 := Lib.hid (HB2.out.trans hb8)
                clear e2 e3 e4 hcp2 hvp2 hcq2 hvq2 hb7 hb8
                go_wp2
                go_roundw
                case rel => exact ⟨HB6.out, c + 1, by omega, by go_num, by rw [HEC.out]; simpa [iv] using ho4⟩
                case measure => first | (simp [intOf]; done) | (simp [intOf]; omega)
              · have ec : c = 4 := by omega
                subst ec
                have hT := baI_after HF.out hb2
                have HT := Lib.hid hT
                have hRows : RowsT (bx + 1) wi v vs (baT a b x) := HF.out.2.2.2.1.2.1
                have hn1 : (baT a b x).length + 1 ≤ 1099511627776 := by have := HTL.out; omega
                have hro1 := own_len (m := (baR a b x 4).length) hro (HRL.out 4)
                obtain ⟨av, cv, rfl, -, -⟩ := owns_sl3 hRows.2.1
                obtain ⟨ar, cr, rfl, -, -⟩ := owns_sl3 hro
                have hvl : Hid (∀ k, (Value.slice av (baT a b x).length cv).ownBlock = some k → bx + 1 ≤ k) := fun k hk => (hRows.2.1.lt k hk).1
                have t3 : wr.cell? ⟨bx, 3, none⟩ = some (.slice av (baT a b x).length cv) := hT.2.1.2.2.2
                have hbs : bx + 1 ≤ wi.heap.size := by have := HF.out.2.2.2.2.2; omega
                clear hT
                go_wp2_with (at_builtin; refine appR rfl (.tmp 83) (.tmp 85) rfl (bx + 1) wi wr _ _ _ vs (baT a b x) (baR a b x 4) (by rfl) hRows hb2 hro1 (by rfl) (by simp) hn1 hbs ?_; intro v' w4 h4 hg4 hk4; have h5 := baI_row HF.out HB2.out hro1 h4 hg4 hk4; obtain ⟨m1, ⟨m20, m21, m22, m23⟩, m3, m4⟩ := baI_box HT.out hg4 hvl.out; have m33 := m3 3; have m5 := cell_later m1 HC1c.out; have m6 := cell_later m1 HD1c.out; obtain ⟨av2, cv2, rfl, -, -⟩ := owns_sl3 h4.2.1)
                have hlen : (baT a b x ++ [baR a b x 4]).length = (baT a b x).length + 1 := by simp
                rw [hlen] at h5
                have H5 := Lib.hid h5
                clear h4 hg4 hk4 h5 m1 m20 m21 m22 m23 m3 m4 m33 m5 m6 t3 hb2 hro hRows hvl hlen
                generalize w4.setCell ⟨bx, 3, none⟩ (.slice av2 ((baT a b x).length + 1) cv2) = w5 at *
                cases hca : a.fi.contains (p : Int)
                · have HK := Lib.hid (HC1.out p w5 (inI_below j1.out H5.out.1))
                  rw [hca] at HK
                  have HNX : Hid (baF a b (x + 1) = baF a b x) := by show _ = _; rw [HFX.out, HH.out, hca]; simp
                  refine (HK.out).mono ?_
                  rintro e w6 ⟨rfl, rfl⟩
                  clear hca
                  go_wp2
                  go_roundw
                  case rel => exact ⟨x + 1, by omega, by go_num, _, _, _, by rw [HNX.out, HTX.out]; exact H5.out⟩
                  case measure => first | (simp [intOf]; done) | (simp [intOf]; omega)
                · have HK := Lib.hid (HC1.out p w5 (inI_below j1.out H5.out.1))
                  rw [hca] at HK
                  have n6 := cell_later H5.out.1 HD1c.out
                  have n26 := H5.out.2.1.2.2.1
                  have HFO := Lib.hid H5.out.2.2.2.1.1
                  have n3 := H5.out.2.2.1 2
                  refine (HK.out).mono ?_
                  rintro e w6 ⟨rfl, rfl⟩
                  cases hcb : b.fi.contains (q : Int)
                  · have HK2 := Lib.hid (HC3.out q w6 (inI_below j3.out H5.out.1))
                    rw [hcb] at HK2
                    have HNX : Hid (baF a b (x + 1) = baF a b x) := by show _ = _; rw [HFX.out, HH.out, hca, hcb]; simp
                    clear hca hcb
                    go_wp2_with fail
                    refine (HK2.out).mono ?_
                    rintro e w7 ⟨rfl, rfl⟩
                    go_wp2
                    go_roundw
                    case rel => exact ⟨x + 1, by omega, by go_num, _, _, _, by rw [HNX.out, HTX.out]; exact H5.out⟩
                    case measure => first | (simp [intOf]; done) | (simp [intOf]; omega)
                  · have HK2 := Lib.hid (HC3.out q w6 (inI_below j3.out H5.out.1))
                    rw [hcb] at HK2
                    have HNX : Hid (baF a b (x + 1) = baF a b x ++ [(x : Int)]) := by show _ = _; rw [HFX.out, HH.out, hca, hcb]; simp
                    obtain ⟨af, cf, rfl, -, -⟩ := owns_sl3 HFO.out
                    have hfo : w6.ownsRow (bx + 1) 2 1 (.slice af (baF a b x).length cf) (baF a b x).length (iv (baF a b x)) := HFO.out
                    have n26 : w6.cell? ⟨bx, 2, none⟩ = some (.slice af (baF a b x).length cf) := n26
                    have hn2 : (baF a b x).length + 1 ≤ 1099511627776 := by have := HFL.out; omega
                    have hb6 : bx + 1 ≤ w6.heap.size := by have := H5.out.2.2.2.2.2; omega
                    have hfl : Hid (∀ k, (Value.slice af (baF a b x).length cf).ownBlock = some k → bx + 1 ≤ k) := fun k hk => (hfo.lt k hk).1
                    clear hca hcb
                    go_wp2_with fail
                    refine (HK2.out).mono ?_
                    rintro e w7 ⟨rfl, rfl⟩
                    go_wp2_with (at_builtin; refine app2_i64 rfl (.tmp 99) (.tmp 101) rfl (bx + 1) w7 _ _ _ (baF a b x) (x : Int) (by rfl) hfo (by rfl) (by simp) hn2 hb6 ?_; intro f' w8 h8 hg8 hk8; have h9 := baI_fin H5.out h8 hg8 hk8; obtain ⟨m1, ⟨m20, m21, m22, m23⟩, m3, m4⟩ := baI_box H5.out hg8 hfl.out; have m32 := m3 2; obtain ⟨af2, cf2, rfl, -, -⟩ := owns_sl3 h8)
                    have H9 := Lib.hid h9
                    clear h8 hg8 hk8 h9 m1 m20 m21 m22 m23 m3 m4 m32 hfo n26 n6 n3 hfl
                    go_roundw
                    case rel => exact ⟨x + 1, by omega, by go_num, _, _, _, by rw [HNX.out, HTX.out]; exact H9.out⟩
                    case measure => first | (simp [intOf]; done) | (simp [intOf]; omega)
          · have ex : x = a.nx.length * b.nx.length := by omega
            have hin : decide ((x : Int) < a.st * b.st) = false := by rw [decide_eq_false_iff_not, ← HMNE.out]; omega
            have HF : Hid (baI a b w3 bx (baF a b (a.nx.length * b.nx.length)) (baT a b (a.nx.length * b.nx.length)) f v vs wr) := by rw [← ex]; exact HF.out
            clear ex
            obtain ⟨F1, ⟨F20, F21, F22, F23⟩, F3, F4, F5, F6⟩ := HF.out
            have F4 : AuR (bx + 1) wr f v vs (baA a b) := F4
            have q0 := cell_later F1 HZ.out.1
            have q1 := cell_later F1 HZ.out.2.1
            have q2 := cell_later F1 HZ.out.2.2.1
            have q3 := cell_later F1 HZ.out.2.2.2
            have qf : ∀ j, wr.frozen? ⟨w.heap.size + 1 + 1, j, none⟩ = false := fun j => by rw [F1.frozen (by simpa using hw3s)]; exact HFZ.out j
            obtain ⟨af, cf, rfl, -, -⟩ := owns_sl3 F4.1
            obtain ⟨av, cv, rfl, -, -⟩ := owns_sl3 F4.2.1.2.1
            have HP := Lib.hid (put4 (w := wr) (b := w.heap.size + 1 + 1) (.int .i64 (a.st * b.st)) (.int .i64 (a.sa * b.st + b.sa)) (.slice af (baA a b).fi.length cf) (.slice av (baA a b).nx.length cv) q0 q1 q2 q3)
            have HBF := Lib.hid (HBB.out.trans (F1.mono HBB.out.size))
            have HAU := Lib.hid F4
            have q00 := qf 0
            have q01 := qf 1
            have q02 := qf 2
            have q03 := qf 3
            have F22 : wr.cell? ⟨bx, 2, none⟩ = some (.slice af (baA a b).fi.length cf) := F22
            have F23 : wr.cell? ⟨bx, 3, none⟩ = some (.slice av (baA a b).nx.length cv) := F23
            have hres : (baA a b).st = a.st * b.st ∧ (baA a b).sa = a.sa * b.st + b.sa := ⟨rfl, rfl⟩
            have HRES := Lib.hid hres
            have hbw : w.heap.size + 1 + 1 < bx := by omega
            clear HF F1 F3 F4 qf hres
            go_wp2
            have hP := HP.out
            refine bodyPost_ret (v := .tuple #[.agg #[.int .i64 (a.st * b.st), .int .i64 (a.sa * b.st + b.sa), .slice af (baA a b).fi.length cf, .slice av (baA a b).nx.length cv], .int .i64 0]) (by simp [results, Try.results33, go_sem, hP.1, hP.2.1, hP.2.2.1, hP.2.2.2]) rfl ⟨_, _, vs, rfl, ?_, ?_⟩
            · exact auR_weak (auR_gp (P := fun b => b = w.heap.size + 1 + 1) HAU.out (Gp.ofSet.trans (Gp.ofSet.trans (Gp.ofSet.trans Gp.ofSet))) (fun b hb h => by omega)) (by omega)
            · exact (((HBF.out.setCell (p := ⟨w.heap.size + 1 + 1, 0, none⟩) (by first | (simp; done) | (simp; omega)) _).setCell (p := ⟨w.heap.size + 1 + 1, 1, none⟩) (by first | (simp; done) | (simp; omega)) _).setCell (p := ⟨w.heap.size + 1 + 1, 2, none⟩) (by first | (simp; done) | (simp; omega)) _).setCell (p := ⟨w.heap.size + 1 + 1, 3, none⟩) (by first | (simp; done) | (simp; omega)) _
      · have e1 : boR a b = ⟨0, 0, [], []⟩ := by rw [boR, if_neg (fun h => h24 h.2)]
        have e2 : boC a b = 3 := by rw [boC, hao, hbo]; simp [h24]
        rw [e1, e2]
        have hgt : 24 < a.st * b.st := by omega
        clear e1 e2 hao hbo hs hs2 HI1 HI2 f1 f2 f3 f4 f5 g1 g2 g3 g4 g5 hpr hpr2 h24
        go_enter Try.func33, Try.ntmps33
        go_wp2_with fail
        refine (HV.out).mono ?_
        rintro e w2 ⟨rfl, hqt⟩
        have hb2 := below_qt hqt
        clear hqt
        have d0 : w2.cell? ⟨w.heap.size + 1, 0, none⟩ = some (.int .i64 b.st) := by rw [hb2.cell (by first | (simp; done) | (simp; omega))]; simp [go_sem]
        have d1 : w2.cell? ⟨w.heap.size + 1, 1, none⟩ = some (.int .i64 b.sa) := by rw [hb2.cell (by first | (simp; done) | (simp; omega))]; simp [go_sem]
        have d2 : w2.cell? ⟨w.heap.size + 1, 2, none⟩ = some (.slice a3 b.fi.length k3) := by rw [hb2.cell (by first | (simp; done) | (simp; omega))]; simp [go_sem]
        have d3 : w2.cell? ⟨w.heap.size + 1, 3, none⟩ = some (.slice a4 b.nx.length k4) := by rw [hb2.cell (by first | (simp; done) | (simp; omega))]; simp [go_sem]
        have i3 := inI_below HI3.out hb2
        have i4 := inT_below HI4.out hb2
        go_wp2_with fail
        refine (HVB.out _ d0 d1 d2 d3 i3 i4).mono ?_
        rintro e w3 ⟨rfl, hqt⟩
        have hb3' := below_qt hqt
        clear hqt
        have hb3 := hb2.trans (hb3'.mono hb2.size)
        have HBB := Lib.hid (HBX.out.trans (hb3.mono HBX.out.size))
        clear d0 d1 d2 d3
        have z0 : w3.cell? ⟨w.heap.size + 1 + 1, 0, none⟩ = some (.int .i64 0) := by rw [hb3.cell (by first | (simp; done) | (simp; omega))]; simp [go_sem]
        have z1 : w3.cell? ⟨w.heap.size + 1 + 1, 1, none⟩ = some (.int .i64 0) := by rw [hb3.cell (by first | (simp; done) | (simp; omega))]; simp [go_sem]
        have z2 : w3.cell? ⟨w.heap.size + 1 + 1, 2, none⟩ = some (.slice none 0 0) := by rw [hb3.cell (by first | (simp; done) | (simp; omega))]; simp [go_sem]
        have z3 : w3.cell? ⟨w.heap.size + 1 + 1, 3, none⟩ = some (.slice none 0 0) := by rw [hb3.cell (by first | (simp; done) | (simp; omega))]; simp [go_sem]
        have fz : ∀ j, w3.frozen? ⟨w.heap.size + 1 + 1, j, none⟩ = false := fun j => by rw [hb3.frozen (by first | (simp; done) | (simp; omega))]; simp [go_sem]
        have c0 : w3.cell? ⟨w.heap.size, 0, none⟩ = some (.int .i64 a.st) := by rw [hb3.cell (by first | (simp; done) | (simp; omega))]; simp [go_sem]
        have c1 : w3.cell? ⟨w.heap.size, 1, none⟩ = some (.int .i64 a.sa) := by rw [hb3.cell (by first | (simp; done) | (simp; omega))]; simp [go_sem]
        have c2 : w3.cell? ⟨w.heap.size, 2, none⟩ = some (.slice a1 a.fi.length k1) := by rw [hb3.cell (by first | (simp; done) | (simp; omega))]; simp [go_sem]
        have c3 : w3.cell? ⟨w.heap.size, 3, none⟩ = some (.slice a2 a.nx.length k2) := by rw [hb3.cell (by first | (simp; done) | (simp; omega))]; simp [go_sem]
        have d0 : w3.cell? ⟨w.heap.size + 1, 0, none⟩ = some (.int .i64 b.st) := by rw [hb3.cell (by first | (simp; done) | (simp; omega))]; simp [go_sem]
        have d1 : w3.cell? ⟨w.heap.size + 1, 1, none⟩ = some (.int .i64 b.sa) := by rw [hb3.cell (by first | (simp; done) | (simp; omega))]; simp [go_sem]
        have d2 : w3.cell? ⟨w.heap.size + 1, 2, none⟩ = some (.slice a3 b.fi.length k3) := by rw [hb3.cell (by first | (simp; done) | (simp; omega))]; simp [go_sem]
        have d3 : w3.cell? ⟨w.heap.size + 1, 3, none⟩ = some (.slice a4 b.nx.length k4) := by rw [hb3.cell (by first | (simp; done) | (simp; omega))]; simp [go_sem]
        clear hb2 hb3 hb3' i3 i4 HI3 HI4 HV HVB HBX
        have HP := Lib.hid (put4 (w := w3) (b := w.heap.size + 1 + 1) (.int .i64 0) (.int .i64 0) (.slice none 0 0) (.slice none 0 0) z0 z1 z2 z3)
        go_wp2
        have hP := HP.out
        refine bodyPost_ret (v := .tuple #[.agg #[.int .i64 0, .int .i64 0, .slice none 0 0, .slice none 0 0], .int .i64 3]) (by simp [results, Try.results33, go_sem, hP.1, hP.2.1, hP.2.2.1, hP.2.2.2]) rfl ⟨_, _, _, rfl, auR_nil _ _, ?_⟩
        exact (((HBB.out.setCell (p := ⟨w.heap.size + 1 + 1, 0, none⟩) (by first | (simp; done) | (simp; omega)) _).setCell (p := ⟨w.heap.size + 1 + 1, 1, none⟩) (by first | (simp; done) | (simp; omega)) _).setCell (p := ⟨w.heap.size + 1 + 1, 2, none⟩) (by first | (simp; done) | (simp; omega)) _).setCell (p := ⟨w.heap.size + 1 + 1, 3, none⟩) (by first | (simp; done) | (simp; omega)) _
end Go.Proofs.Ytefcdkgfabaffaa
