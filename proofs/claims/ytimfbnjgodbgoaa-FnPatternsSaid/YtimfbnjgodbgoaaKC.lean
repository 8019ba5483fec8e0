/- A ride: an automaton with a grammar, and what the words of its rules do. -/
import Derived.Test.YtimfbnjgodbgoaaKB
namespace Go.Proofs.Ytimfbnjgodbgoaa
open Go.ChangeShapes Go.WideShapes Go.RowKit
set_option linter.unusedVariables false
set_option linter.unusedSimpArgs false
set_option maxHeartbeats 2000000
set_option maxRecDepth 100000
theorem i_newRide (u1 u2 vg : Value) (a : Au) (l : List Ru) (w : World) (hs : auSm a) (hn : l.length ≤ 1048576) (hsz : ∀ r ∈ l, r.1.size ≤ 1048576) (h1 : InI w u1 a.fi) (h2 : InT w u2 a.nx) (hg : InRu w vg l) (h : (gOk l && auOk a) = true) :
    Calls Try.prog 60 #[.agg #[.int .i64 a.st, .int .i64 a.sa, u1, u2], .agg #[vg]] w fun e w' => ∃ vl vm, e = .returned (.tuple #[.agg #[.int .i64 a.st, .int .i64 a.sa, u1, u2, vg, vl, vm], .bool true]) ∧ w'.ownsRow w.heap.size 2 1 vl (gLn l).length ((gLn l).map (Value.int .i64)) ∧ OwnT w.heap.size w' vm (gSm a.nx l) ∧ Below w.heap.size w w' := by
  obtain ⟨a1, k1, rfl⟩ := inI_sl h1
  obtain ⟨a2, k2, rfl⟩ := inT_sl h2
  obtain ⟨ag, kg, rfl⟩ := inRu_sl hg
  rw [Bool.and_eq_true] at h
  obtain ⟨hok, hao⟩ := h
  obtain ⟨f1, f2, f3, f4, f5⟩ := auOk_facts hao
  have hnl : a.nx.length ≤ 24 := by omega
  have hnp : nxP a.nx := by intro s hs; rw [f4]; exact f5 s hs
  have hbx := (((Below.refl w.heap.size w).alloc (Nat.le_refl _) (.cells #[.int .i64 a.st, .int .i64 a.sa, (.slice a1 a.fi.length k1), (.slice a2 a.nx.length k2)] 43)).alloc (by simp) (.cells #[(.slice ag l.length kg)] 26)).alloc (by first | (simp; done) | (simp; omega)) (.cells #[.int .i64 0, .int .i64 0, .slice none 0 0, .slice none 0 0, .slice none 0 0, .slice none 0 0, .slice none 0 0] 69)
  have HL := Lib.hid (i_lengths (.slice ag l.length kg) l _ hn hsz (inRu_below hg hbx))
  have HV := Lib.hid (fun w i1 i2 => i_ValidAuto (.slice a1 a.fi.length k1) (.slice a2 a.nx.length k2) a w hs i1 i2)
  have HM := Lib.hid (fun w i1 i2 => i_stateMaps (.slice a2 a.nx.length k2) (.slice ag l.length kg) a.nx l w hok hnl hnp i1 i2)
  rw [hok] at HL
  rw [hao] at HV
  have HI1 := Lib.hid h1
  have HI2 := Lib.hid h2
  have HG := Lib.hid hg
  have HBX := Lib.hid hbx
  clear h1 h2 hg hs hsz f1 f2 f3 f4 f5 hnl hnp hok hao
  generalize gLn l = L at *
  generalize gSm a.nx l = M at *
  go_enter Try.func60, Try.ntmps60
  go_wp2_with fail
  refine (HL.out).mono ?_
  rintro e w2 ⟨vl, rfl, ho, hb2⟩
  obtain ⟨al, kl, rfl, -, -⟩ := owns_sl3 ho
  have B2 := HBX.out.trans (hb2.mono HBX.out.size)
  have c0 : w2.cell? ⟨w.heap.size, 0, none⟩ = some (.int .i64 a.st) := by rw [hb2.cell (by first | (simp; done) | (simp; omega))]; simp [go_sem]
  have c1 : w2.cell? ⟨w.heap.size, 1, none⟩ = some (.int .i64 a.sa) := by rw [hb2.cell (by first | (simp; done) | (simp; omega))]; simp [go_sem]
  have c2 : w2.cell? ⟨w.heap.size, 2, none⟩ = some (.slice a1 a.fi.length k1) := by rw [hb2.cell (by first | (simp; done) | (simp; omega))]; simp [go_sem]
  have c3 : w2.cell? ⟨w.heap.size, 3, none⟩ = some (.slice a2 a.nx.length k2) := by rw [hb2.cell (by first | (simp; done) | (simp; omega))]; simp [go_sem]
  have d0 : w2.cell? ⟨w.heap.size + 1, 0, none⟩ = some (.slice ag l.length kg) := by rw [hb2.cell (by first | (simp; done) | (simp; omega))]; simp [go_sem]
  have z0 : w2.cell? ⟨w.heap.size + 1 + 1, 0, none⟩ = some (.int .i64 0) := by rw [hb2.cell (by first | (simp; done) | (simp; omega))]; simp [go_sem]
  have z1 : w2.cell? ⟨w.heap.size + 1 + 1, 1, none⟩ = some (.int .i64 0) := by rw [hb2.cell (by first | (simp; done) | (simp; omega))]; simp [go_sem]
  have z2 : w2.cell? ⟨w.heap.size + 1 + 1, 2, none⟩ = some (.slice none 0 0) := by rw [hb2.cell (by first | (simp; done) | (simp; omega))]; simp [go_sem]
  have z3 : w2.cell? ⟨w.heap.size + 1 + 1, 3, none⟩ = some (.slice none 0 0) := by rw [hb2.cell (by first | (simp; done) | (simp; omega))]; simp [go_sem]
  have z4 : w2.cell? ⟨w.heap.size + 1 + 1, 4, none⟩ = some (.slice none 0 0) := by rw [hb2.cell (by first | (simp; done) | (simp; omega))]; simp [go_sem]
  have z5 : w2.cell? ⟨w.heap.size + 1 + 1, 5, none⟩ = some (.slice none 0 0) := by rw [hb2.cell (by first | (simp; done) | (simp; omega))]; simp [go_sem]
  have z6 : w2.cell? ⟨w.heap.size + 1 + 1, 6, none⟩ = some (.slice none 0 0) := by rw [hb2.cell (by first | (simp; done) | (simp; omega))]; simp [go_sem]
  have fz : ∀ j, w2.frozen? ⟨w.heap.size + 1 + 1, j, none⟩ = false := fun j => by rw [hb2.frozen (by first | (simp; done) | (simp; omega))]; simp [go_sem]
  have hw2 : w.heap.size + 1 + 1 < w2.heap.size := World.block_lt_of_cell? _ _ z0
  have j1 := inI_below HI1.out B2
  have j2 := inT_below HI2.out B2
  have HB2 := Lib.hid B2
  have HO := Lib.hid ho
  clear hb2 ho B2 HL hbx HBX
  go_wp2_with fail
  refine (HV.out _ j1 j2).mono ?_
  rintro e w3 ⟨rfl, hb3⟩
  have B3 := HB2.out.trans (hb3.mono HB2.out.size)
  have c0 := cell_later hb3 c0
  have c1 := cell_later hb3 c1
  have c2 := cell_later hb3 c2
  have c3 := cell_later hb3 c3
  have d0 := cell_later hb3 d0
  have z0 := cell_later hb3 z0
  have z1 := cell_later hb3 z1
  have z2 := cell_later hb3 z2
  have z3 := cell_later hb3 z3
  have z4 := cell_later hb3 z4
  have z5 := cell_later hb3 z5
  have z6 := cell_later hb3 z6
  have fz : ∀ j, w3.frozen? ⟨w.heap.size + 1 + 1, j, none⟩ = false := fun j => by rw [hb3.frozen (by simpa using hw2)]; exact fz j
  have ho3 := Lib.hid (owns_after HO.out hb3)
  have hw3 : w.heap.size + 1 + 1 < w3.heap.size := World.block_lt_of_cell? _ _ z0
  have j2 := inT_below HI2.out B3
  have jg := inRu_below HG.out B3
  have HB3 := Lib.hid B3
  clear hb3 HO HB2 hw2 B3
  go_wp2
  go_region_held3 (fun w' => w'.cell? ⟨w.heap.size, 0, none⟩ = some (.int .i64 a.st) ∧ w'.cell? ⟨w.heap.size, 1, none⟩ = some (.int .i64 a.sa) ∧ w'.cell? ⟨w.heap.size, 2, none⟩ = some (.slice a1 a.fi.length k1) ∧ w'.cell? ⟨w.heap.size, 3, none⟩ = some (.slice a2 a.nx.length k2) ∧ w'.cell? ⟨w.heap.size + 1, 0, none⟩ = some (.slice ag l.length kg)) (first | with_reducible exact ⟨p0, p1, p2, p3, p4⟩ | with_reducible exact ⟨(st7 (by omega)).trans p0, (st7 (by omega)).trans p1, (st7 (by omega)).trans p2, (st7 (by omega)).trans p3, (st7 (by omega)).trans p4⟩ | go_keep)
    ((go_at_call 70; refine (HM.out _ (by first | exact j2 | exact inT_below j2 (Below.drew (Below.refl _ _))) (by first | exact jg | exact inRu_drew jg)).mono ?_; rintro e w4 ⟨vm, rfl, hom, hb4⟩; obtain ⟨am, km, rfl⟩ := inT_sl (ownT_in hom); have p0 := (hb4.cell (p := ⟨w.heap.size, 0, none⟩) (by first | (simp; done) | (simp; omega))).trans (show _ = _ from (by simpa using c0)); have p1 := (hb4.cell (p := ⟨w.heap.size, 1, none⟩) (by first | (simp; done) | (simp; omega))).trans (show _ = _ from (by simpa using c1)); have p2 := (hb4.cell (p := ⟨w.heap.size, 2, none⟩) (by first | (simp; done) | (simp; omega))).trans (show _ = _ from (by simpa using c2)); have p3 := (hb4.cell (p := ⟨w.heap.size, 3, none⟩) (by first | (simp; done) | (simp; omega))).trans (show _ = _ from (by simpa using c3)); have p4 := (hb4.cell (p := ⟨w.heap.size + 1, 0, none⟩) (by first | (simp; done) | (simp; omega))).trans (show _ = _ from (by simpa using d0)); have q0 := (hb4.cell (p := ⟨w.heap.size + 1 + 1, 0, none⟩) (by first | (simp; done) | (simp; omega))).trans (show _ = _ from (by simpa using z0)); have q1 := (hb4.cell (p := ⟨w.heap.size + 1 + 1, 1, none⟩) (by first | (simp; done) | (simp; omega))).trans (show _ = _ from (by simpa using z1)); have q2 := (hb4.cell (p := ⟨w.heap.size + 1 + 1, 2, none⟩) (by first | (simp; done) | (simp; omega))).trans (show _ = _ from (by simpa using z2)); have q3 := (hb4.cell (p := ⟨w.heap.size + 1 + 1, 3, none⟩) (by first | (simp; done) | (simp; omega))).trans (show _ = _ from (by simpa using z3)); have q4 := (hb4.cell (p := ⟨w.heap.size + 1 + 1, 4, none⟩) (by first | (simp; done) | (simp; omega))).trans (show _ = _ from (by simpa using z4)); have q5 := (hb4.cell (p := ⟨w.heap.size + 1 + 1, 5, none⟩) (by first | (simp; done) | (simp; omega))).trans (show _ = _ from (by simpa using z5)); have q6 := (hb4.cell (p := ⟨w.heap.size + 1 + 1, 6, none⟩) (by first | (simp; done) | (simp; omega))).trans (show _ = _ from (by simpa using z6)); have qf : ∀ j, w4.frozen? ⟨w.heap.size + 1 + 1, j, none⟩ = false := fun j => by rw [hb4.frozen (by first | (simp; done) | (simp; omega))]; simpa using fz j))
  have hP := put7 (w := w4) (b := w.heap.size + 1 + 1) (.int .i64 a.st) (.int .i64 a.sa) (.slice a1 a.fi.length k1) (.slice a2 a.nx.length k2) (.slice ag l.length kg) (.slice al L.length kl) (.slice am M.length km) q0 q1 q2 q3 q4 q5 q6
  have hs3 := hb4.size
  have HO4 := Lib.hid (own7 (b := w.heap.size + 1 + 1) (v0 := .int .i64 a.st) (v1 := .int .i64 a.sa) (v2 := .slice a1 a.fi.length k1) (v3 := .slice a2 a.nx.length k2) (v4 := .slice ag l.length kg) (v5 := .slice al L.length kl) (v6 := .slice am M.length km) (owns_after (ownsRow_drew ho3.out) hb4) (by simp))
  have HT4 := Lib.hid (ownT7 (b := w.heap.size + 1 + 1) (v0 := .int .i64 a.st) (v1 := .int .i64 a.sa) (v2 := .slice a1 a.fi.length k1) (v3 := .slice a2 a.nx.length k2) (v4 := .slice ag l.length kg) (v5 := .slice al L.length kl) (v6 := .slice am M.length km) hom (by simpa using hw3))
  have HB4 := Lib.hid (below7 (b := w.heap.size + 1 + 1) (v0 := .int .i64 a.st) (v1 := .int .i64 a.sa) (v2 := .slice a1 a.fi.length k1) (v3 := .slice a2 a.nx.length k2) (v4 := .slice ag l.length kg) (v5 := .slice al L.length kl) (v6 := .slice am M.length km) (HB3.out.drew.trans (hb4.mono HB3.out.drew.size)) (by omega))
  clear p0 p1 p2 p3 p4 q0 q1 q2 q3 q4 q5 q6 qf z0 z1 z2 z3 z4 z5 z6 fz c0 c1 c2 c3 d0 ho3 hom
  refine (fun {W W' : World} (e : W' = W) (k : Exit.then _ _ _ _ W) => (e ▸ k : Exit.then _ _ _ _ W')) (W := set7 w4 (w.heap.size + 1 + 1) (.int .i64 a.st) (.int .i64 a.sa) (.slice a1 a.fi.length k1) (.slice a2 a.nx.length k2) (.slice ag l.length kg) (.slice al L.length kl) (.slice am M.length km)) rfl ?_
  generalize set7 w4 (w.heap.size + 1 + 1) (.int .i64 a.st) (.int .i64 a.sa) (.slice a1 a.fi.length k1) (.slice a2 a.nx.length k2) (.slice ag l.length kg) (.slice al L.length kl) (.slice am M.length km) = w5 at *
  obtain ⟨t0, t1, t2, t3, t4, t5, t6⟩ := hP
  go_wp2
  refine bodyPost_ret (v := .tuple #[.agg #[.int .i64 a.st, .int .i64 a.sa, .slice a1 a.fi.length k1, .slice a2 a.nx.length k2, .slice ag l.length kg, .slice al L.length kl, .slice am M.length km], .bool true]) (by simp [results, Try.results60, go_sem, t0, t1, t2, t3, t4, t5, t6]) rfl ⟨_, _, rfl, owns_weak HO4.out (by simp; omega), ownT_weak HT4.out (by have := hb4.size; have := HB3.out.size; simp at *; omega), HB4.out⟩
theorem i_newRide_f (u1 u2 vg : Value) (a : Au) (l : List Ru) (w : World) (hs : auSm a) (hn : l.length ≤ 1048576) (hsz : ∀ r ∈ l, r.1.size ≤ 1048576) (h1 : InI w u1 a.fi) (h2 : InT w u2 a.nx) (hg : InRu w vg l) (h : (gOk l && auOk a) = false) :
    Calls Try.prog 60 #[.agg #[.int .i64 a.st, .int .i64 a.sa, u1, u2], .agg #[vg]] w fun e w' => e = .returned (.tuple #[.agg #[.int .i64 0, .int .i64 0, .slice none 0 0, .slice none 0 0, .slice none 0 0, .slice none 0 0, .slice none 0 0], .bool false]) ∧ Below w.heap.size w w' := by
  obtain ⟨a1, k1, rfl⟩ := inI_sl h1
  obtain ⟨a2, k2, rfl⟩ := inT_sl h2
  obtain ⟨ag, kg, rfl⟩ := inRu_sl hg
  have hbx := (((Below.refl w.heap.size w).alloc (Nat.le_refl _) (.cells #[.int .i64 a.st, .int .i64 a.sa, .slice a1 a.fi.length k1, .slice a2 a.nx.length k2] 43)).alloc (by simp) (.cells #[.slice ag l.length kg] 26)).alloc (by first | (simp; done) | (simp; omega)) (.cells #[.int .i64 0, .int .i64 0, .slice none 0 0, .slice none 0 0, .slice none 0 0, .slice none 0 0, .slice none 0 0] 69)
  have HL := Lib.hid (i_lengths (.slice ag l.length kg) l _ hn hsz (inRu_below hg hbx))
  have HV := Lib.hid (fun w i1 i2 => i_ValidAuto (.slice a1 a.fi.length k1) (.slice a2 a.nx.length k2) a w hs i1 i2)
  have HI1 := Lib.hid h1
  have HI2 := Lib.hid h2
  have HBX := Lib.hid hbx
  cases hok : gOk l
  · rw [hok] at HL
    clear h1 h2 hg hs hsz hok h HV
    go_enter Try.func60, Try.ntmps60
    go_wp2_with fail
    refine (HL.out).mono ?_
    rintro e w2 ⟨vl, rfl, ho, hb2⟩
    obtain ⟨al, kl, rfl, -, -⟩ := owns_sl3 ho
    have HBB := Lib.hid (HBX.out.trans (hb2.mono HBX.out.size))
    have z0 : w2.cell? ⟨w.heap.size + 1 + 1, 0, none⟩ = some (.int .i64 0) := by rw [hb2.cell (by first | (simp; done) | (simp; omega))]; simp [go_sem]
    have z1 : w2.cell? ⟨w.heap.size + 1 + 1, 1, none⟩ = some (.int .i64 0) := by rw [hb2.cell (by first | (simp; done) | (simp; omega))]; simp [go_sem]
    have z2 : w2.cell? ⟨w.heap.size + 1 + 1, 2, none⟩ = some (.slice none 0 0) := by rw [hb2.cell (by first | (simp; done) | (simp; omega))]; simp [go_sem]
    have z3 : w2.cell? ⟨w.heap.size + 1 + 1, 3, none⟩ = some (.slice none 0 0) := by rw [hb2.cell (by first | (simp; done) | (simp; omega))]; simp [go_sem]
    have z4 : w2.cell? ⟨w.heap.size + 1 + 1, 4, none⟩ = some (.slice none 0 0) := by rw [hb2.cell (by first | (simp; done) | (simp; omega))]; simp [go_sem]
    have z5 : w2.cell? ⟨w.heap.size + 1 + 1, 5, none⟩ = some (.slice none 0 0) := by rw [hb2.cell (by first | (simp; done) | (simp; omega))]; simp [go_sem]
    have z6 : w2.cell? ⟨w.heap.size + 1 + 1, 6, none⟩ = some (.slice none 0 0) := by rw [hb2.cell (by first | (simp; done) | (simp; omega))]; simp [go_sem]
    have fz : ∀ j, w2.frozen? ⟨w.heap.size + 1 + 1, j, none⟩ = false := fun j => by rw [hb2.frozen (by first | (simp; done) | (simp; omega))]; simp [go_sem]
    clear hb2 ho HL hbx HBX
    have hP := put7 (w := w2) (b := w.heap.size + 1 + 1) (.int .i64 0) (.int .i64 0) (.slice none 0 0) (.slice none 0 0) (.slice none 0 0) (.slice none 0 0) (.slice none 0 0) z0 z1 z2 z3 z4 z5 z6
    have hfz := fz
    have HB4 := Lib.hid (below7 (b := w.heap.size + 1 + 1) (v0 := .int .i64 0) (v1 := .int .i64 0) (v2 := .slice none 0 0) (v3 := .slice none 0 0) (v4 := .slice none 0 0) (v5 := .slice none 0 0) (v6 := .slice none 0 0) HBB.out (by omega))
    go_wp2
    obtain ⟨t0, t1, t2, t3, t4, t5, t6⟩ := hP
    unfold set7 at t0 t1 t2 t3 t4 t5 t6
    refine bodyPost_ret (v := .tuple #[.agg #[.int .i64 0, .int .i64 0, .slice none 0 0, .slice none 0 0, .slice none 0 0, .slice none 0 0, .slice none 0 0], .bool false]) (by simp [results, Try.results60, go_sem, t0, t1, t2, t3, t4, t5, t6]) rfl ⟨rfl, HB4.out⟩
  · rw [hok, Bool.true_and] at h
    rw [hok] at HL
    rw [h] at HV
    clear h1 h2 hg hs hsz hok h
    go_enter Try.func60, Try.ntmps60
    go_wp2_with fail
    refine (HL.out).mono ?_
    rintro e w2 ⟨vl, rfl, ho, hb2⟩
    obtain ⟨al, kl, rfl, -, -⟩ := owns_sl3 ho
    have HB2 := Lib.hid (HBX.out.trans (hb2.mono HBX.out.size))
    have z0 : w2.cell? ⟨w.heap.size + 1 + 1, 0, none⟩ = some (.int .i64 0) := by rw [hb2.cell (by first | (simp; done) | (simp; omega))]; simp [go_sem]
    have z1 : w2.cell? ⟨w.heap.size + 1 + 1, 1, none⟩ = some (.int .i64 0) := by rw [hb2.cell (by first | (simp; done) | (simp; omega))]; simp [go_sem]
    have z2 : w2.cell? ⟨w.heap.size + 1 + 1, 2, none⟩ = some (.slice none 0 0) := by rw [hb2.cell (by first | (simp; done) | (simp; omega))]; simp [go_sem]
    have z3 : w2.cell? ⟨w.heap.size + 1 + 1, 3, none⟩ = some (.slice none 0 0) := by rw [hb2.cell (by first | (simp; done) | (simp; omega))]; simp [go_sem]
    have z4 : w2.cell? ⟨w.heap.size + 1 + 1, 4, none⟩ = some (.slice none 0 0) := by rw [hb2.cell (by first | (simp; done) | (simp; omega))]; simp [go_sem]
    have z5 : w2.cell? ⟨w.heap.size + 1 + 1, 5, none⟩ = some (.slice none 0 0) := by rw [hb2.cell (by first | (simp; done) | (simp; omega))]; simp [go_sem]
    have z6 : w2.cell? ⟨w.heap.size + 1 + 1, 6, none⟩ = some (.slice none 0 0) := by rw [hb2.cell (by first | (simp; done) | (simp; omega))]; simp [go_sem]
    have fz2 : ∀ j, w2.frozen? ⟨w.heap.size + 1 + 1, j, none⟩ = false := fun j => by rw [hb2.frozen (by first | (simp; done) | (simp; omega))]; simp [go_sem]
    have c0 : w2.cell? ⟨w.heap.size, 0, none⟩ = some (.int .i64 a.st) := by rw [hb2.cell (by first | (simp; done) | (simp; omega))]; simp [go_sem]
    have c1 : w2.cell? ⟨w.heap.size, 1, none⟩ = some (.int .i64 a.sa) := by rw [hb2.cell (by first | (simp; done) | (simp; omega))]; simp [go_sem]
    have c2 : w2.cell? ⟨w.heap.size, 2, none⟩ = some (.slice a1 a.fi.length k1) := by rw [hb2.cell (by first | (simp; done) | (simp; omega))]; simp [go_sem]
    have c3 : w2.cell? ⟨w.heap.size, 3, none⟩ = some (.slice a2 a.nx.length k2) := by rw [hb2.cell (by first | (simp; done) | (simp; omega))]; simp [go_sem]
    have hw2 : w.heap.size + 1 + 1 < w2.heap.size := World.block_lt_of_cell? _ _ z0
    have j1 := inI_below HI1.out HB2.out
    have j2 := inT_below HI2.out HB2.out
    clear hb2 ho HL hbx HBX
    go_wp2_with fail
    refine (HV.out _ j1 j2).mono ?_
    rintro e w3 ⟨rfl, hb3⟩
    have HBB := Lib.hid (HB2.out.trans (hb3.mono HB2.out.size))
    have z0 := cell_later hb3 z0
    have z1 := cell_later hb3 z1
    have z2 := cell_later hb3 z2
    have z3 := cell_later hb3 z3
    have z4 := cell_later hb3 z4
    have z5 := cell_later hb3 z5
    have z6 := cell_later hb3 z6
    have fz : ∀ j, w3.frozen? ⟨w.heap.size + 1 + 1, j, none⟩ = false := fun j => by rw [hb3.frozen (by simpa using hw2)]; exact fz2 j
    clear hb3 j1 j2 fz2
    have hP := put7 (w := w3) (b := w.heap.size + 1 + 1) (.int .i64 0) (.int .i64 0) (.slice none 0 0) (.slice none 0 0) (.slice none 0 0) (.slice none 0 0) (.slice none 0 0) z0 z1 z2 z3 z4 z5 z6
    have hfz := fz
    have HB4 := Lib.hid (below7 (b := w.heap.size + 1 + 1) (v0 := .int .i64 0) (v1 := .int .i64 0) (v2 := .slice none 0 0) (v3 := .slice none 0 0) (v4 := .slice none 0 0) (v5 := .slice none 0 0) (v6 := .slice none 0 0) HBB.out (by omega))
    go_wp2
    obtain ⟨t0, t1, t2, t3, t4, t5, t6⟩ := hP
    unfold set7 at t0 t1 t2 t3 t4 t5 t6
    refine bodyPost_ret (v := .tuple #[.agg #[.int .i64 0, .int .i64 0, .slice none 0 0, .slice none 0 0, .slice none 0 0, .slice none 0 0, .slice none 0 0], .bool false]) (by simp [results, Try.results60, go_sem, t0, t1, t2, t3, t4, t5, t6]) rfl ⟨rfl, HB4.out⟩
end Go.Proofs.Ytimfbnjgodbgoaa
