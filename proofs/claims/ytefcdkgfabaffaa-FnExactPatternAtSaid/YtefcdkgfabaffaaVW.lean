/- PatternAt, both functions. -/
import Derived.Test.YtefcdkgfabaffaaVU
namespace Go.Proofs.Ytefcdkgfabaffaa
open Go.ChangeShapes Go.WideShapes Go.RowKit
set_option linter.unusedVariables false
set_option linter.unusedSimpArgs false
set_option maxHeartbeats 1000000
set_option maxRecDepth 100000
/-- the least number, from j on, for which f holds -/
def lvS (f : Nat → Bool) : Nat → Nat → Nat
  | 0, j => j
  | n + 1, j => if f j = true then j else lvS f n (j + 1)
theorem lvS_eq {f : Nat → Bool} {r : Nat} (h1 : ∀ i, i < r → f i = false) (h2 : f r = true) : ∀ (n j : Nat), j ≤ r → r ≤ j + n → lvS f n j = r
  | 0, j, h3, h4 => by rw [lvS]; omega
  | n + 1, j, h3, h4 => by
    rw [lvS]
    by_cases he : j = r
    · rw [he, if_pos h2]
    · rw [if_neg (by rw [h1 j (by omega)]; simp)]
      exact lvS_eq h1 h2 n (j + 1) (by omega) (by omega)
def patR (p : ByteArray) (l : List Ru) (k : Int) : Int := (lvS (fun j => decide (k + 1 ≤ cwW (paA p).nx p.size 0 ((wd l).take j))) (wd l).length 0 : Nat)
theorem patR_eq {p : ByteArray} {l : List Ru} {k r : Int} (h : lvP (paA p).nx p.size 0 (wd l) (k + 1) r) : patR p l k = r := by
  obtain ⟨h1, h2, h3, h4⟩ := h
  have e : lvS (fun j => decide (k + 1 ≤ cwW (paA p).nx p.size 0 ((wd l).take j))) (wd l).length 0 = r.toNat := by
    refine lvS_eq (fun i hi => ?_) (decide_eq_true h3) _ _ (Nat.zero_le _) (by omega)
    have := h4 i (by omega)
    exact decide_eq_false (by omega)
  rw [patR, e]
  omega
theorem enF_cw {p : ByteArray} {l : List Ru} (hp : p.size ≤ 20) (hok : gOk l = true) (j : Int) : enF p l j = cwW (paA p).nx p.size 0 ((wd l).take j.toNat) := by
  rw [enF_eq hp hok, viV_law (paA_ok hp) hok (by rw [paA_nx]; omega)]
  rfl
theorem enF_N {p : ByteArray} {l : List Ru} (hp : p.size ≤ 20) (hok : gOk l = true) : enF p l (lastI (gLn l)) = cwW (paA p).nx p.size 0 (wd l) := by
  have := wd_len hok
  rw [enF_cw hp hok, show (lastI (gLn l)).toNat = (wd l).length by omega, List.take_length]
theorem enF_mono {p : ByteArray} {l : List Ru} (hp : p.size ≤ 20) (hok : gOk l = true) : ∀ i j, 0 ≤ i → i ≤ j → j ≤ lastI (gLn l) → enF p l i ≤ enF p l j := by
  intro i j h0 h1 h2
  rw [enF_cw hp hok, enF_cw hp hok]
  exact cwW_mono _ _ _ _ (by omega)
theorem enF_bd {p : ByteArray} {l : List Ru} (hp : p.size ≤ 20) (hok : gOk l = true) (j : Int) : 0 ≤ enF p l j ∧ enF p l j ≤ 1000000000000000 := by
  rw [enF_eq hp hok]
  exact viV_bd (paA_ok hp) hok j (by rw [paA_nx]; omega)
/-- the program's place is the least one -/
theorem pat_ans {p : ByteArray} {l : List Ru} (hp : p.size ≤ 20) (hok : gOk l = true) {k r : Int} (h : lsP (enF p l) (lastI (gLn l)) (k + 1) r) (hk : k < enF p l (lastI (gLn l))) : patR p l k = r ∧ 0 ≤ r ∧ r ≤ 1000000000000000 := by
  have h2 := lv_of_ls (wd_len hok) (fun j _ _ => enF_cw hp hok j) h (by omega)
  have := h2.1
  have := h2.2.1
  have := wd_len hok
  have := lastI_bd hok
  exact ⟨patR_eq h2, by omega, by omega⟩
def patV (p : ByteArray) (l : List Ru) (k : Int) : Int := if skC p l = 0 then (if k < 0 then 0 else (if enF p l (lastI (gLn l)) ≤ k then 0 else patR p l k - p.size)) else 0
def patC (p : ByteArray) (l : List Ru) (k : Int) : Int := if skC p l = 0 then (if k < 0 then 2 else (if enF p l (lastI (gLn l)) ≤ k then 6 else 0)) else skC p l
/-- where the reference stands while it goes down -/
structure dsP (p : ByteArray) (l : List Ru) (k0 : Int) (k : Int) (r s : Nat) (e : Int) : Prop where
  rl : r < l.length
  sl : s < (paA p).nx.length
  kn : 0 ≤ k
  kb : k < cwW (paA p).nx p.size s (exF l l.length r)
  eb : 0 ≤ e ∧ e + (gLn l).getD r 0 ≤ 1000000000000000
  ok : ∀ x, lvP (paA p).nx p.size s (exF l l.length r) (k + 1) x → lvP (paA p).nx p.size 0 (wd l) (k0 + 1) (e + x)
theorem ds_word {l : List Ru} (hok : gOk l = true) {r : Nat} (hr : r < l.length) (hz : (ruA l r).1.size = 0) : exF l l.length r = exF l l.length (ruA l r).2.1.toNat ++ exF l l.length (ruA l r).2.2.toNat := by
  obtain ⟨q1, q2, q3, q4⟩ := (gOk_rule hok hr).1 hz
  rw [exF_same hok l.length (r + 1) r hr (by omega) hr, exF_pair hz, exF_same hok r l.length _ (by omega) (by omega) (by omega), exF_same hok r l.length (ruA l r).2.2.toNat (by omega) (by omega) (by omega)]
theorem ds_left {p : ByteArray} {l : List Ru} {k0 k e : Int} {r s a : Nat} (hok : gOk l = true) (h : dsP p l k0 k r s e) (hz : (ruA l r).1.size = 0) (ha : (ruA l r).2.1 = (a : Int)) (hk : k < cwW (paA p).nx p.size s (exF l l.length a)) : dsP p l k0 k a s e := by
  obtain ⟨q1, q2, q3, q4⟩ := (gOk_rule hok h.rl).1 hz
  have hw := ds_word hok h.rl hz
  have hl := (gOk_len hok h.rl).1 hz
  rw [ha, Int.toNat_natCast] at hw hl
  have hb := gl_bd hok (show (ruA l r).2.2.toNat < l.length by have := h.rl; omega)
  refine ⟨by have := h.rl; omega, h.sl, h.kn, hk, ⟨h.eb.1, by have := h.eb.2; omega⟩, fun x hx => h.ok x ?_⟩
  rw [hw]
  exact lvP_left hx
theorem ds_right {p : ByteArray} {l : List Ru} {k0 k e : Int} {r s a b t : Nat} (hp : p.size ≤ 20) (hok : gOk l = true) (h : dsP p l k0 k r s e) (hz : (ruA l r).1.size = 0) (ha : (ruA l r).2.1 = (a : Int)) (hb : (ruA l r).2.2 = (b : Int)) (ht : (tA (gSm (paA p).nx l) a).getD s 0 = (t : Int)) (hk : ¬ k < cwW (paA p).nx p.size s (exF l l.length a)) :
    dsP p l k0 (k - cwW (paA p).nx p.size s (exF l l.length a)) b t (e + (gLn l).getD a 0) := by
  obtain ⟨f1, f2, f3, f4, f5⟩ := auOk_facts (paA_ok hp)
  have hn : nxP (paA p).nx := by intro s hs; rw [f4]; exact f5 s hs
  obtain ⟨q1, q2, q3, q4⟩ := (gOk_rule hok h.rl).1 hz
  have hw := ds_word hok h.rl hz
  have hl := (gOk_len hok h.rl).1 hz
  rw [ha, hb, Int.toNat_natCast, Int.toNat_natCast] at hw hl
  have hrl := h.rl
  have hal : a < l.length := by omega
  have hrd := rd_rule hn hok l.length a s hal hal h.sl
  have hmb := smT_bd (nx := (paA p).nx) hn hok l.length a s hal (Nat.le_refl _) h.sl
  have hmb' : 0 ≤ (tA (gSm (paA p).nx l) a).getD s 0 ∧ (tA (gSm (paA p).nx l) a).getD s 0 < (paA p).nx.length := hmb
  rw [ht] at hmb' hrd
  rw [Int.toNat_natCast] at hrd
  have hlen := exF_len hok l.length a hal hal
  have hkb := h.kb
  have hcb := cwW_bd (paA p).nx p.size (exF l l.length a) s
  have hga := gl_bd hok hal
  rw [hw, cwW_app, ← hrd] at hkb
  refine ⟨by omega, by omega, by omega, by omega, ⟨by have := h.eb.1; omega, by have := h.eb.2; omega⟩, fun x hx => ?_⟩
  have h2 := h.ok (((exF l l.length a).length : Int) + x) (by
    rw [hw]
    refine lvP_right (by omega) ?_
    rw [← hrd, show k + 1 - cwW (paA p).nx p.size s (exF l l.length a) = k - cwW (paA p).nx p.size s (exF l l.length a) + 1 by omega]
    exact hx)
  rw [← hlen, Int.add_assoc]
  exact h2
theorem ds_end {p : ByteArray} {l : List Ru} {k0 k e : Int} {r s : Nat} (hp : p.size ≤ 20) (hok : gOk l = true) (h : dsP p l k0 k r s e) (hz : (ruA l r).1.size ≠ 0) : patR p l k0 = e + 1 ∧ 0 ≤ e ∧ e ≤ 1000000000000000 := by
  have hl1 : (exF l l.length r).length = 1 := by
    have := exF_len hok l.length r h.rl h.rl
    rw [(gOk_len hok h.rl).2 hz] at this
    omega
  have hc := cw_let hok p.size h.rl h.sl hz (nx := (paA p).nx)
  have hkb := h.kb
  have hk0 := h.kn
  have h1 : cwW (paA p).nx p.size s (exF l l.length r) = 1 := by
    rw [hc] at hkb ⊢
    split at hkb
    · rename_i he; rw [if_pos he]
    · omega
  have hk : k = 0 := by omega
  subst hk
  have := h.eb
  have hg := gl_bd hok h.rl
  exact ⟨patR_eq (h.ok 1 (lvP_one hl1 h1)), by omega, by omega⟩
theorem ds_start {p : ByteArray} {l : List Ru} {k : Int} (hp : p.size ≤ 20) (hok : gOk l = true) (h0 : l.length ≠ 0) (hk : 0 ≤ k) (hkb : k < cwW (paA p).nx p.size 0 (exF l l.length (l.length - 1))) : dsP p l k k (l.length - 1) 0 0 := by
  refine ⟨by omega, by rw [paA_nx]; omega, hk, hkb, ⟨Int.le_refl _, ?_⟩, fun x hx => ?_⟩
  · have := gl_bd hok (show l.length - 1 < l.length by omega); omega
  · rw [Int.zero_add]; exact hx
theorem i_PatternAt (vg : Value) (l : List Ru) (p : ByteArray) (k : Int) (w : World) (hn : l.length ≤ 1048576) (hsz : ∀ r ∈ l, r.1.size ≤ 1048576) (hg : InRu w vg l) (hz : p.size ≤ 1048576) (hk : (Lit.int .i64 k).wf = true) :
    Calls Try.prog 51 #[.agg #[vg], .string p, .int .i64 k] w fun e w' => e = .returned (.tuple #[.int .i64 (patV p l k), .int .i64 (patC p l k)]) ∧ Below w.heap.size w w' := by
  obtain ⟨ag, kg, rfl⟩ := inRu_sl hg
  have hbx := (Below.refl w.heap.size w).alloc (Nat.le_refl _) (.cells #[.slice ag l.length kg] 59)
  have HBX : Hid (∀ w', Below (w.alloc (.cells #[.slice ag l.length kg] 59)).heap.size (w.alloc (.cells #[.slice ag l.length kg] 59)) w' → Below w.heap.size w w') := fun w' h => below_box h
  by_cases h0 : skC p l = 0
  · have HN := Lib.hid (i_seek (.slice ag l.length kg) p l _ hz hn hsz (inRu_below hg hbx) h0)
    have hp20 := skC_p20 h0
    have hok := (skC_ok h0).1
    have HOK := Lib.hid hok
    have HAO := Lib.hid (paA_ok hp20)
    have HEN : Hid (∀ j, tmS (viV (paA p) l j) (paA p).fi (paA p).fi.length = enF p l j) := fun j => rfl
    have HEB := Lib.hid (enF_bd hp20 hok (lastI (gLn l)))
    have HMO := Lib.hid (enF_mono hp20 hok)
    have HPA := Lib.hid (fun r h h2 => @pat_ans p l hp20 hok k r h h2)
    have HP20 := Lib.hid hp20
    have HSIZ := Lib.hid (fun w => i_size p w)
    by_cases hk0 : k < 0
    · have e1 : patV p l k = 0 := by rw [patV, if_pos h0, if_pos hk0]
      have e2 : patC p l k = 2 := by rw [patC, if_pos h0, if_pos hk0]
      rw [e1, e2]
      have HK0 := Lib.hid hk0
      clear hg hsz hbx h0 e1 e2 hk0 hp20 hok hk
      generalize paA p = a at *
      go_enter Try.func51, Try.ntmps51
      go_wp2_with fail
      refine (HN.out).mono ?_
      rintro e w2 ⟨u1, u2, vl, vm, rfl, hrd2, hb2⟩
      obtain ⟨a1, k1, rfl⟩ := inI_sl hrd2.fi
      obtain ⟨a2, k2, rfl⟩ := inT_sl hrd2.nx
      obtain ⟨B0, hlw⟩ := hrd2.ln
      obtain ⟨al, kl, rfl, -, -⟩ := owns_sl3 hlw
      obtain ⟨am, km, rfl⟩ := inT_sl hrd2.mp
      have HRD2 := Lib.hid hrd2
      have HB2 := Lib.hid (HBX.out _ hb2)
      have HB2' := Lib.hid hb2
      clear hb2 HN hrd2 hlw
      have hk0 := HK0.out
      have hkd : decide (k < 0) = true := decide_eq_true hk0
      go_wp2
      go_ret2
      exact ⟨rfl, by first | exact HB2.out.alloc HB2.out.size _ | exact HB2.out⟩
    · have hk0' : 0 ≤ k := by omega
      have HK0 := Lib.hid hk0'
      by_cases hke : enF p l (lastI (gLn l)) ≤ k
      · have e1 : patV p l k = 0 := by rw [patV, if_pos h0, if_neg hk0, if_pos hke]
        have e2 : patC p l k = 6 := by rw [patC, if_pos h0, if_neg hk0, if_pos hke]
        rw [e1, e2]
        have HKE : Hid (decide (enF p l (lastI (gLn l)) ≤ k) = true) := decide_eq_true hke
        clear hg hsz hbx h0 e1 e2 hk0 hk0' hp20 hok hk hke
        generalize paA p = a at *
        go_enter Try.func51, Try.ntmps51
        go_wp2_with fail
        refine (HN.out).mono ?_
        rintro e w2 ⟨u1, u2, vl, vm, rfl, hrd2, hb2⟩
        obtain ⟨a1, k1, rfl⟩ := inI_sl hrd2.fi
        obtain ⟨a2, k2, rfl⟩ := inT_sl hrd2.nx
        obtain ⟨B0, hlw⟩ := hrd2.ln
        obtain ⟨al, kl, rfl, -, -⟩ := owns_sl3 hlw
        obtain ⟨am, km, rfl⟩ := inT_sl hrd2.mp
        have HRD2 := Lib.hid hrd2
        have HB2 := Lib.hid (HBX.out _ hb2)
        have HB2' := Lib.hid hb2
        clear hb2 HN hrd2 hlw
        have hkd : decide (k < 0) = false := decide_eq_false (by have := HK0.out; omega)
        go_wp2
        have hbox := ride_box w2 (.int .i64 a.st) (.int .i64 a.sa) (.slice a1 a.fi.length k1) (.slice a2 a.nx.length k2) (.slice ag l.length kg) (.slice al l.length kl) (.slice am (gSm a.nx l).length km)
        refine gen_world2 (fun w3 => rd7 w2.heap.size (.int .i64 a.st) (.int .i64 a.sa) (.slice a1 a.fi.length k1) (.slice a2 a.nx.length k2) (.slice ag l.length kg) (.slice al l.length kl) (.slice am (gSm a.nx l).length km) w3 ∧ Below w2.heap.size w2 w3) hbox ?_
        clear hbox
        rintro w3 ⟨⟨c0, c1, c2, c3, c4, c5, c6⟩, hb3⟩
        have HRD3 := Lib.hid (inRd_below HRD2.out hb3)
        have HB3 := Lib.hid (HB2.out.trans (hb3.mono HB2.out.size))
        have HB3' := Lib.hid (HB2'.out.trans (hb3.mono HB2'.out.size))
        have HSS : Hid (∀ w', Below w3.heap.size w3 w' → (w'.cell? ⟨w2.heap.size, 0, none⟩ = some (.int .i64 a.st) ∧ w'.cell? ⟨w2.heap.size, 1, none⟩ = some (.int .i64 a.sa) ∧ w'.cell? ⟨w2.heap.size, 2, none⟩ = some (.slice a1 a.fi.length k1) ∧ w'.cell? ⟨w2.heap.size, 3, none⟩ = some (.slice a2 a.nx.length k2) ∧ w'.cell? ⟨w2.heap.size, 4, none⟩ = some (.slice ag l.length kg) ∧ w'.cell? ⟨w2.heap.size, 5, none⟩ = some (.slice al l.length kl) ∧ w'.cell? ⟨w2.heap.size, 6, none⟩ = some (.slice am (gSm a.nx l).length km))) := fun w' h => ⟨cell_later h c0, cell_later h c1, cell_later h c2, cell_later h c3, cell_later h c4, cell_later h c5, cell_later h c6⟩
        have hb3k := hb3
        clear hb3
        clear hb3k
        go_region_held3 (fun w' => w'.cell? ⟨w2.heap.size, 0, none⟩ = some (.int .i64 a.st) ∧ w'.cell? ⟨w2.heap.size, 1, none⟩ = some (.int .i64 a.sa) ∧ w'.cell? ⟨w2.heap.size, 2, none⟩ = some (.slice a1 a.fi.length k1) ∧ w'.cell? ⟨w2.heap.size, 3, none⟩ = some (.slice a2 a.nx.length k2) ∧ w'.cell? ⟨w2.heap.size, 4, none⟩ = some (.slice ag l.length kg) ∧ w'.cell? ⟨w2.heap.size, 5, none⟩ = some (.slice al l.length kl) ∧ w'.cell? ⟨w2.heap.size, 6, none⟩ = some (.slice am (gSm a.nx l).length km)) (exact HSS.out _ (by (repeat (first | exact Below.refl _ _ | apply Below.drew | (refine bl_tr ?_ hT2) | (refine bl_tr ?_ hT1))); done)) (first | (go_at_call 106; with_reducible refine (rd_length (inRd_below HRD3.out (by (repeat (first | exact Below.refl _ _ | apply Below.drew)); done)) HOK.out).mono ?_; rintro e wA ⟨rfl, hT1⟩) | (go_at_call 105; with_reducible refine (rd_ends (inRd_below HRD3.out (by (repeat (first | exact Below.refl _ _ | apply Below.drew | (refine bl_tr ?_ hT1))); done)) HOK.out HAO.out _).mono ?_; rintro e wB ⟨rfl, hT2⟩))
        have hbf : Below w3.heap.size w3 wB := by (repeat (first | exact Below.refl _ _ | apply Below.drew | (refine bl_tr ?_ hT2) | (refine bl_tr ?_ hT1))); done
        have HBF := Lib.hid (HB3.out.trans (hbf.mono HB3.out.size))
        rw [HEN.out, HKE.out]
        clear hT1 hT2 hbf c0 c1 c2 c3 c4 c5 c6
        go_wp2
        go_ret2
        exact ⟨rfl, HBF.out⟩
      · have e1 : patV p l k = patR p l k - p.size := by rw [patV, if_pos h0, if_neg hk0, if_neg hke]
        have e2 : patC p l k = 0 := by rw [patC, if_pos h0, if_neg hk0, if_neg hke]
        rw [e2]
        have HE1 := Lib.hid e1
        have HKE : Hid (decide (enF p l (lastI (gLn l)) ≤ k) = false) := decide_eq_false hke
        have HKT : Hid (decide (k + 1 ≤ enF p l (lastI (gLn l))) = true) := decide_eq_true (by omega)
        have HKL : Hid (k < enF p l (lastI (gLn l))) := by show _ < _; omega
        have hkb : k ≤ 1000000000000000 := by have := HEB.out; omega
        clear hg hsz hbx h0 e1 e2 hk0 hp20 hok hk hke
        generalize paA p = a at *
        go_enter Try.func51, Try.ntmps51
        go_wp2_with fail
        refine (HN.out).mono ?_
        rintro e w2 ⟨u1, u2, vl, vm, rfl, hrd2, hb2⟩
        obtain ⟨a1, k1, rfl⟩ := inI_sl hrd2.fi
        obtain ⟨a2, k2, rfl⟩ := inT_sl hrd2.nx
        obtain ⟨B0, hlw⟩ := hrd2.ln
        obtain ⟨al, kl, rfl, -, -⟩ := owns_sl3 hlw
        obtain ⟨am, km, rfl⟩ := inT_sl hrd2.mp
        have HRD2 := Lib.hid hrd2
        have HB2 := Lib.hid (HBX.out _ hb2)
        have HB2' := Lib.hid hb2
        clear hb2 HN hrd2 hlw
        have hkd : decide (k < 0) = false := decide_eq_false (by have := HK0.out; omega)
        go_wp2
        have hbox := ride_box w2 (.int .i64 a.st) (.int .i64 a.sa) (.slice a1 a.fi.length k1) (.slice a2 a.nx.length k2) (.slice ag l.length kg) (.slice al l.length kl) (.slice am (gSm a.nx l).length km)
        refine gen_world2 (fun w3 => rd7 w2.heap.size (.int .i64 a.st) (.int .i64 a.sa) (.slice a1 a.fi.length k1) (.slice a2 a.nx.length k2) (.slice ag l.length kg) (.slice al l.length kl) (.slice am (gSm a.nx l).length km) w3 ∧ Below w2.heap.size w2 w3) hbox ?_
        clear hbox
        rintro w3 ⟨⟨c0, c1, c2, c3, c4, c5, c6⟩, hb3⟩
        have HRD3 := Lib.hid (inRd_below HRD2.out hb3)
        have HB3 := Lib.hid (HB2.out.trans (hb3.mono HB2.out.size))
        have HB3' := Lib.hid (HB2'.out.trans (hb3.mono HB2'.out.size))
        have HSS : Hid (∀ w', Below w3.heap.size w3 w' → (w'.cell? ⟨w2.heap.size, 0, none⟩ = some (.int .i64 a.st) ∧ w'.cell? ⟨w2.heap.size, 1, none⟩ = some (.int .i64 a.sa) ∧ w'.cell? ⟨w2.heap.size, 2, none⟩ = some (.slice a1 a.fi.length k1) ∧ w'.cell? ⟨w2.heap.size, 3, none⟩ = some (.slice a2 a.nx.length k2) ∧ w'.cell? ⟨w2.heap.size, 4, none⟩ = some (.slice ag l.length kg) ∧ w'.cell? ⟨w2.heap.size, 5, none⟩ = some (.slice al l.length kl) ∧ w'.cell? ⟨w2.heap.size, 6, none⟩ = some (.slice am (gSm a.nx l).length km))) := fun w' h => ⟨cell_later h c0, cell_later h c1, cell_later h c2, cell_later h c3, cell_later h c4, cell_later h c5, cell_later h c6⟩
        have hb3k := hb3
        clear hb3
        clear hb3k
        have HCS := Lib.hid (And.intro c0 (And.intro c1 (And.intro c2 (And.intro c3 (And.intro c4 (And.intro c5 c6))))))
        go_region_held3 (fun w' => w'.cell? ⟨w2.heap.size, 0, none⟩ = some (.int .i64 a.st) ∧ w'.cell? ⟨w2.heap.size, 1, none⟩ = some (.int .i64 a.sa) ∧ w'.cell? ⟨w2.heap.size, 2, none⟩ = some (.slice a1 a.fi.length k1) ∧ w'.cell? ⟨w2.heap.size, 3, none⟩ = some (.slice a2 a.nx.length k2) ∧ w'.cell? ⟨w2.heap.size, 4, none⟩ = some (.slice ag l.length kg) ∧ w'.cell? ⟨w2.heap.size, 5, none⟩ = some (.slice al l.length kl) ∧ w'.cell? ⟨w2.heap.size, 6, none⟩ = some (.slice am (gSm a.nx l).length km)) (exact HSS.out _ (by (repeat (first | exact Below.refl _ _ | apply Below.drew | (refine bl_tr ?_ hT2) | (refine bl_tr ?_ hT1))); done)) (first | (go_at_call 106; with_reducible refine (rd_length (inRd_below HRD3.out (by (repeat (first | exact Below.refl _ _ | apply Below.drew)); done)) HOK.out).mono ?_; rintro e wA ⟨rfl, hT1⟩) | (go_at_call 105; with_reducible refine (rd_ends (inRd_below HRD3.out (by (repeat (first | exact Below.refl _ _ | apply Below.drew | (refine bl_tr ?_ hT1))); done)) HOK.out HAO.out _).mono ?_; rintro e wB ⟨rfl, hT2⟩))
        have hbf : Below w3.heap.size w3 wB := by (repeat (first | exact Below.refl _ _ | apply Below.drew | (refine bl_tr ?_ hT2) | (refine bl_tr ?_ hT1))); done
        have HBF := Lib.hid (HB3.out.trans (hbf.mono HB3.out.size))
        have HRDB := Lib.hid (inRd_below HRD3.out hbf)
        obtain ⟨d0, d1, d2, d3, d4, d5, d6⟩ := HSS.out wB hbf
        have hmf : ∀ (fn : Fn) (first cap : Array Value) (w : World), (Instr.makeFunc fn first cap).run Try.prog w = .ok (.func fn first cap) w := fun _ _ _ _ => rfl
        have HLE := Lib.hid (rd_least HRDB.out HOK.out (k + 1) (enF p l) 105 #[.agg #[.int .i64 a.st, .int .i64 a.sa, .slice a1 a.fi.length k1, .slice a2 a.nx.length k2, .slice ag l.length kg, .slice al l.length kl, .slice am (gSm a.nx l).length km]] #[] (enters_of Try.func105 (by kernel_rfl) rfl) HMO.out
          (fun j w' _ _ hb' => (rd_ends (inRd_below HRDB.out hb') HOK.out HAO.out j).mono (fun e w'' h => by rw [← HEN.out]; exact h)))
        rw [HEN.out, HKE.out]
        clear hT1 hT2 hbf c0 c1 c2 c3 c4 c5 c6
        go_wp2_with fail
        refine HLE.out.mono ?_
        rintro e w4 ⟨r, rfl, hls, hb4⟩
        obtain ⟨hr, hr0, hr1⟩ := HPA.out r hls HKL.out
        have HR := Lib.hid hr
        have HB4 := Lib.hid (HBF.out.trans (hb4.mono HBF.out.size))
        have hp2 := HP20.out
        rw [HKT.out]
        clear hls hb4 hr HLE
        go_wp2_with fail
        refine (HSIZ.out _).mono ?_
        rintro e w5 ⟨rfl, rfl⟩
        go_wp2
        go_ret2
        exact ⟨by rw [HE1.out, HR.out]; rfl, HB4.out⟩
  · have e1 : patV p l k = 0 := by rw [patV, if_neg h0]
    have e2 : patC p l k = skC p l := by rw [patC, if_neg h0]
    have HN := Lib.hid (i_seek_f (.slice ag l.length kg) p l _ hz hn hsz (inRu_below hg hbx) h0)
    have hcb : (skC p l == 0) = false := by rw [beq_eq_false_iff_ne]; exact h0
    have HCB := Lib.hid hcb
    rw [e1, e2]
    clear e1 e2 hg hsz hbx h0 hcb hk
    generalize skC p l = c at *
    go_enter Try.func51, Try.ntmps51
    go_wp2_with fail
    refine (HN.out).mono ?_
    rintro e w2 ⟨rfl, hb2⟩
    have BF := HBX.out _ hb2
    have hcb := HCB.out
    clear hb2 HN
    go_wp2
    go_ret2
    exact ⟨rfl, by first | exact BF.alloc BF.size _ | exact BF | exact ((BF.alloc BF.size _).setCell (by simp; exact BF.size) _)⟩
theorem s_PatternAt (vg : Value) (l : List Ru) (p : ByteArray) (k : Int) (w : World) (hn : l.length ≤ 1048576) (hsz : ∀ r ∈ l, r.1.size ≤ 1048576) (hg : InRu w vg l) (hz : p.size ≤ 1048576) (hk : (Lit.int .i64 k).wf = true) :
    Calls Try.prog 50 #[.agg #[vg], .string p, .int .i64 k] w fun e w' => e = .returned (.tuple #[.int .i64 (patV p l k), .int .i64 (patC p l k)]) ∧ Below w.heap.size w w' := by
  obtain ⟨ag, kg, rfl⟩ := inRu_sl hg
  have hbx := (Below.refl w.heap.size w).alloc (Nat.le_refl _) (.cells #[.slice ag l.length kg] 59)
  have HBX : Hid (∀ w', Below (w.alloc (.cells #[.slice ag l.length kg] 59)).heap.size (w.alloc (.cells #[.slice ag l.length kg] 59)) w' → Below w.heap.size w w') := fun w' h => below_box h
  have HA := Lib.hid (s_l04Asked2 w.heap.size 0 kg ag p l _ hz hn hsz (by simp [go_sem]) (inRu_below hg hbx))
  have HIG := Lib.hid (inRu_below hg hbx)
  have HLN := Lib.hid (fun w1 c i => s_l02Lengths w.heap.size 0 kg ag l w1 hn hsz c i)
  by_cases h0 : skC p l = 0
  · have hp20 := skC_p20 h0
    have hok := (skC_ok h0).1
    have HP := Lib.hid (fun w => s_l04Pattern p w hp20)
    have HOK := Lib.hid hok
    have HP20 := Lib.hid hp20
    have HAO := Lib.hid (paA_ok hp20)
    have HNX := Lib.hid (paA_nx p)
    have HEN := Lib.hid (@enF_N p l hp20 hok)
    have HEB := Lib.hid (enF_bd hp20 hok (lastI (gLn l)))
    rw [h0] at HA
    by_cases hk0 : k < 0
    · have e1 : patV p l k = 0 := by rw [patV, if_pos h0, if_pos hk0]
      have e2 : patC p l k = 2 := by rw [patC, if_pos h0, if_pos hk0]
      have hkd : decide (k < 0) = true := decide_eq_true hk0
      have HKD := Lib.hid hkd
      rw [e1, e2]
      clear e1 e2 h0 hg hsz hbx hk0 hkd hp20 hok hk
      go_enter Try.func50, Try.ntmps50
      go_wp2_with fail
      refine HA.out.mono ?_
      rintro e w2 ⟨rfl, hb2⟩
      have BF := HBX.out _ hb2
      have hkd := HKD.out
      clear hb2 HA
      go_wp2
      go_ret2
      exact ⟨rfl, BF⟩
    · have hkd : decide (k < 0) = false := decide_eq_false hk0
      have HKD := Lib.hid hkd
      have hk0' : 0 ≤ k := by omega
      by_cases hl0 : l.length = 0
      · have hN : enF p l (lastI (gLn l)) ≤ k := by
          have h1 := HEN.out
          have h2 := cwW_bd (paA p).nx p.size (wd l) 0
          have h3 := wd_len hok
          rw [lastI_nil (by rw [gLn_len3 hok]; exact hl0)] at h3
          omega
        have e1 : patV p l k = 0 := by rw [patV, if_pos h0, if_neg hk0, if_pos hN]
        have e2 : patC p l k = 6 := by rw [patC, if_pos h0, if_neg hk0, if_pos hN]
        have hlb : ((l.length : Int) == 0) = true := by rw [beq_iff_eq]; omega
        have HLB := Lib.hid hlb
        rw [e1, e2]
        clear e1 e2 h0 hg hsz hbx hk0 hkd hp20 hok hk hN hl0 hlb
        go_enter Try.func50, Try.ntmps50
        go_wp2_with fail
        refine HA.out.mono ?_
        rintro e w2 ⟨rfl, hb2⟩
        have c0 : w2.cell? ⟨w.heap.size, 0, none⟩ = some (.slice ag l.length kg) := by rw [hb2.cell (by first | (simp; done) | (simp; omega))]; simp [go_sem]
        have BF := HBX.out _ hb2
        have hkd := HKD.out
        have hlb := HLB.out
        clear hb2 HA
        go_wp2
        go_ret2
        exact ⟨rfl, BF⟩
      · have hlb : ((l.length : Int) == 0) = false := by rw [beq_eq_false_iff_ne]; omega
        have HLB := Lib.hid hlb
        obtain ⟨f1, f2, f3, f4, f5⟩ := auOk_facts (paA_ok hp20)
        have hnx : nxP (paA p).nx := by intro s hs; rw [f4]; exact f5 s hs
        have hnl : (paA p).nx.length ≤ 24 := by omega
        have HMp := Lib.hid (fun v w1 (i : InT w1 v (paA p).nx) c g => s_l04Maps v w.heap.size 0 kg ag (paA p).nx l w1 hok hnl hnx i c g)
        have HTl := Lib.hid (fun v vm w1 (i : InT w1 v (paA p).nx) (im : InT w1 vm (gSm (paA p).nx l)) c g => s_l04Tallies v vm w.heap.size 0 kg ag (paA p).nx l p.size w1 hok hnl hnx i im c g)
        have HTLW : Hid (∀ q s, q < l.length → s < (paA p).nx.length → (tA (etT (tlE l (gSm (paA p).nx l) p.size) (paA p).nx.length l.length) q).getD s 0 = cwW (paA p).nx p.size s (exF l l.length q)) := fun q s hq hs => tl_law hnx hok l.length q s hq (Nat.le_refl _) hs
        have HTR : Hid (∀ q, q < l.length → (tA (etT (tlE l (gSm (paA p).nx l) p.size) (paA p).nx.length l.length) q).length = (paA p).nx.length) := fun q hq => etT_row _ _ hq
        have HTL := Lib.hid (etT_len (tlE l (gSm (paA p).nx l) p.size) (paA p).nx.length l.length)
        have HMB : Hid (∀ q s, q < l.length → s < (paA p).nx.length → 0 ≤ (tA (gSm (paA p).nx l) q).getD s 0 ∧ (tA (gSm (paA p).nx l) q).getD s 0 < (paA p).nx.length) := fun q s hp hs => smT_bd hnx hok l.length q s hp (Nat.le_refl _) hs
        have HMR : Hid (∀ q, q < l.length → (tA (gSm (paA p).nx l) q).length = (paA p).nx.length) := fun q hp => smT_row (paA p).nx l hp
        have HML : Hid ((gSm (paA p).nx l).length = l.length) := smT_len (paA p).nx l l.length
        have HRUL := Lib.hid (fun k hk => @gOk_rule l hok k hk)
        have HGL := Lib.hid (gLn_len3 hok)
        have HGB := Lib.hid (fun q hq => @gl_bd l hok q hq)
        have HWD : Hid (cwW (paA p).nx p.size 0 (wd l) = cwW (paA p).nx p.size 0 (exF l l.length (l.length - 1))) := rfl
        have HL400 := (gOk_some hok).1
        obtain ⟨R, hR⟩ : ∃ R, l.length = R + 1 := ⟨l.length - 1, by omega⟩
        have HRR : Hid (l.length = R + 1) := hR
        have HE1 : Hid (patV p l k = if enF p l (lastI (gLn l)) ≤ k then 0 else patR p l k - p.size) := by show _ = _; rw [patV, if_pos h0, if_neg hk0]
        have HE2 : Hid (patC p l k = if enF p l (lastI (gLn l)) ≤ k then 6 else 0) := by show _ = _; rw [patC, if_pos h0, if_neg hk0]
        have HK0 := Lib.hid hk0'
        clear h0 hg hsz hbx hk0 hkd hk0' hp20 hok hk hl0 hlb f1 f2 f3 f4 f5 hnx hR
        go_enter Try.func50, Try.ntmps50
        go_wp2_with fail
        refine HA.out.mono ?_
        rintro e w2 ⟨rfl, hb2⟩
        have c0 : w2.cell? ⟨w.heap.size, 0, none⟩ = some (.slice ag l.length kg) := by rw [hb2.cell (by first | (simp; done) | (simp; omega))]; simp [go_sem]
        have HB2 := Lib.hid (HBX.out _ hb2)
        have HG2 := Lib.hid (inRu_below HIG.out hb2)
        have hkd := HKD.out
        have hlb := HLB.out
        clear hb2 HA
        go_wp2_with fail
        refine (HP.out _).mono ?_
        rintro e w3 ⟨x1, x2, vs, rfl, hA, hb3⟩
        obtain ⟨a1, k1, rfl⟩ := inI_sl (auR_inI hA)
        obtain ⟨a2, k2, rfl⟩ := inT_sl (auR_inT hA)
        have c1 := cell_later hb3 c0
        have hq := (Below.refl _ _).alloc (Nat.le_refl w3.heap.size) (.cells #[.int .i64 (paA p).st, .int .i64 (paA p).sa, .slice a1 (paA p).fi.length k1, .slice a2 (paA p).nx.length k2] 28)
        have c2 : ∀ o, (w3.alloc o).cell? ⟨w.heap.size, 0, none⟩ = _ := fun o => cell_later ((Below.refl _ _).alloc (Nat.le_refl _) o) c1
        have C2 := Lib.hid c2
        have HB3 := Lib.hid ((HB2.out.trans (hb3.mono HB2.out.size)).trans (hq.mono (HB2.out.trans (hb3.mono HB2.out.size)).size))
        have HI3 := Lib.hid (inT_below (auR_inT hA) hq)
        have HG3 := Lib.hid (inRu_below (inRu_below HG2.out hb3) hq)
        clear hA hb3 hq c1 c0
        go_wp2_with fail
        refine (HMp.out _ _ HI3.out (C2.out _) HG3.out).mono ?_
        rintro e w4 ⟨vm, rfl, hom, hb4⟩
        have him := ownT_in hom
        obtain ⟨am, km, rfl⟩ := inT_sl him
        have d0 := cell_later hb4 (C2.out _)
        have b3 : w4.cell? ⟨w3.heap.size, 3, none⟩ = some (.slice a2 (paA p).nx.length k2) := by rw [hb4.cell (by simp)]; simp [go_sem]
        have HB4 := Lib.hid (HB3.out.trans (hb4.mono HB3.out.size))
        have HI4 := Lib.hid (inT_below HI3.out hb4)
        have HG4 := Lib.hid (inRu_below HG3.out hb4)
        have HM4 := Lib.hid him
        clear hb4 hom him c2 C2
        go_wp2_with fail
        refine (HTl.out _ _ _ HI4.out HM4.out d0 HG4.out).mono ?_
        rintro e w5 ⟨vt, rfl, hot, hb5⟩
        have hit := ownT_in hot
        obtain ⟨at', kt, rfl⟩ := inT_sl hit
        have d1 := cell_later hb5 d0
        have HB5 := Lib.hid (HB4.out.trans (hb5.mono HB4.out.size))
        have HG5 := Lib.hid (inRu_below HG4.out hb5)
        have HM5 := Lib.hid (inT_below HM4.out hb5)
        have HT5 := Lib.hid hit
        clear hb5 hot hit d0 b3
        go_wp2_with fail
        refine (HLN.out _ d1 HG5.out).mono ?_
        rintro e w6 ⟨vl, rfl, hb6, hol⟩
        have hol := hol HOK.out
        rw [HGL.out] at hol
        obtain ⟨al, kl, rfl, hsl, -⟩ := owns_sl3 hol
        have d2 := cell_later hb6 d1
        have HB6 := Lib.hid (HB5.out.trans (hb6.mono HB5.out.size))
        have HG6 := Lib.hid (inRu_below HG5.out hb6)
        have HM6 := Lib.hid (inT_below HM5.out hb6)
        have HT6 := Lib.hid (inT_below HT5.out hb6)
        have HL6 := Lib.hid hol
        clear hb6 hol d1 HP HMp HTl HLN
        obtain ⟨bt, ot, hbt, hltt, hall⟩ := inT_all HT6.out (by rw [HTL.out]; have := HRR.out; omega)
        subst hbt
        obtain ⟨rp, cp, hcp, hip⟩ := hall R (by rw [HTL.out]; have := HRR.out; omega)
        obtain ⟨gp, fp, rfl, hlt1, hvp⟩ := inI_at hip (show 0 < _ by rw [HTR.out R (by have := HRR.out; omega)]; have := HNX.out; omega)
        rw [HTR.out R (by have := HRR.out; omega)] at hcp
        rw [HTLW.out R 0 (by have := HRR.out; omega) (by have := HNX.out; omega)] at hvp
        rw [Nat.add_zero] at hvp
        have hEW : enF p l (lastI (gLn l)) = cwW (paA p).nx p.size 0 (exF l l.length R) := by rw [HEN.out, HWD.out, show l.length - 1 = R by have := HRR.out; omega]
        have hRI : (R : Int) < (etT (tlE l (gSm (paA p).nx l) p.size) (paA p).nx.length l.length).length := by rw [HTL.out]; have := HRR.out; omega
        have hRJ : (l.length : Int) - 1 = (R : Int) := by have := HRR.out; omega
        have h0n : (0 : Int) < (paA p).nx.length := by have := HNX.out; omega
        have HEW := Lib.hid hEW
        rw [← hEW] at hvp
        clear hall hip hEW
        by_cases hke : enF p l (lastI (gLn l)) ≤ k
        · have hkeb : decide (enF p l (lastI (gLn l)) ≤ k) = true := decide_eq_true hke
          have HKE := Lib.hid hke
          clear hke
          go_wp2
          go_ret2
          exact ⟨by rw [HE1.out, HE2.out, if_pos HKE.out, if_pos HKE.out]; rfl, HB6.out⟩
        · have hkeb : decide (enF p l (lastI (gLn l)) ≤ k) = false := decide_eq_false hke
          have HKE : Hid (k < enF p l (lastI (gLn l))) := by show _ < _; omega
          have HD0 : Hid (dsP p l k k R 0 0) := by
            have := ds_start HP20.out HOK.out (show l.length ≠ 0 by have := HRR.out; omega) HK0.out (k := k) (by have h1 := HEN.out; have h2 := HWD.out; have h3 := HKE.out; omega)
            rwa [show l.length - 1 = R by have := HRR.out; omega] at this
          clear hke
          go_wp2
          have hvp' := hvp
          clear hcp hvp' hRI hRJ h0n
          go_loopw [2, 14, 15, 16, 17] (fun kk r s e _ wr => Below w6.heap.size w6 wr ∧ ∃ (k' : Int) (r' s' : Nat) (e' : Int), kk = .int .i64 k' ∧ r = .int .i64 r' ∧ s = .int .i64 s' ∧ e = .int .i64 e' ∧ dsP p l k k' r' s' e') (fun _ r _ _ _ _ => (intOf r).toNat)
          case atStart => exact ⟨Below.refl _ _, k, R, 0, 0, rfl, rfl, rfl, rfl, HD0.out⟩
          case round =>
            obtain ⟨hb, k', r', s', e', rfl, rfl, rfl, rfl, hD⟩ := hrel
            have d3 := cell_later hb d2
            have hrl := hD.rl
            have hsl' := hD.sl
            have hrI : (r' : Int) < l.length := by omega
            have hsI : (s' : Int) < (paA p).nx.length := by omega
            obtain ⟨b, off, hag, hbl, hc0, hc1, hc2⟩ := inRu_at (inRu_below HG6.out hb) hrl
            subst hag
            have HD := Lib.hid hD
            have HB := Lib.hid hb
            have HRU := Lib.hid (HRUL.out r' hrl)
            by_cases hz : (ruA l r').1.size = 0
            · obtain ⟨q1, q2, q3, q4⟩ := HRU.out.1 hz
              obtain ⟨a, ha⟩ := Int.eq_ofNat_of_zero_le q1
              obtain ⟨c, hc⟩ := Int.eq_ofNat_of_zero_le q3
              have har : a < r' := by omega
              have hcr : c < r' := by omega
              have hal : a < l.length := by omega
              have hcl : c < l.length := by omega
              have haI : (a : Int) < l.length := by omega
              have haM : (a : Int) < (gSm (paA p).nx l).length := by have := HML.out; omega
              have haT : (a : Int) < (etT (tlE l (gSm (paA p).nx l) p.size) (paA p).nx.length l.length).length := by rw [HTL.out]; omega
              obtain ⟨t, ht⟩ := Int.eq_ofNat_of_zero_le (HMB.out a s' hal hsl').1
              have hex := size_zero hz
              obtain ⟨bt2, ot2, hbt2, hltt2, hall⟩ := inT_all (inT_below HT6.out hb) (by rw [HTL.out]; omega)
              injection hbt2 with hbt2; injection hbt2 with hbt2 hot2
              subst hbt2 hot2
              obtain ⟨rp, cp, hcp, hip⟩ := hall a (by rw [HTL.out]; exact hal)
              obtain ⟨gp2, fp2, rfl, hlt2, hvp2⟩ := inI_at hip (show s' < _ by rw [HTR.out a hal]; exact hsl')
              rw [HTR.out a hal] at hcp
              rw [HTLW.out a s' hal hsl'] at hvp2
              obtain ⟨bm, om, hbm, hltm, hallm⟩ := inT_all (inT_below HM6.out hb) (by rw [HML.out]; omega)
              subst hbm
              obtain ⟨rm, cm, hcm, him⟩ := hallm a (by rw [HML.out]; exact hal)
              obtain ⟨gm, fm, rfl, hlt3, hvm⟩ := inI_at him (show s' < _ by rw [HMR.out a hal]; exact hsl')
              rw [HMR.out a hal] at hcm
              rw [ht] at hvm
              obtain ⟨gl, hgl⟩ := hsl (by omega)
              subst hgl
              have hvl := cell_later hb (own_get HL6.out HGL.out hal)
              have hcw := cwW_bd (paA p).nx p.size (exF l l.length a) s'
              have hcw2 := exF_len HOK.out l.length a hal hal
              have hga := HGB.out a hal
              have hgc := HGB.out c hcl
              have hgr := (gOk_len HOK.out hrl).1 hz
              rw [ha, hc, Int.toNat_natCast, Int.toNat_natCast] at hgr
              have heb := hD.eb
              have hkn := hD.kn
              have hkb := hD.kb
              have hkw := cwW_bd (paA p).nx p.size (exF l l.length r') s'
              have hkw2 := exF_len HOK.out l.length r' hrl hrl
              have hgrb := HGB.out r' hrl
              have HZ := Lib.hid hz
              have HAH := Lib.hid ha
              have HCH := Lib.hid hc
              have HTH := Lib.hid ht
              rw [hex] at hc0
              rw [ha] at hc1
              rw [hc] at hc2
              have ql := fun o => cell_later ((Below.refl wr.heap.size wr).alloc (Nat.le_refl _) o) hcp
              have qv := fun o => cell_later ((Below.refl wr.heap.size wr).alloc (Nat.le_refl _) o) hvp2
              have qm := fun o => cell_later ((Below.refl wr.heap.size wr).alloc (Nat.le_refl _) o) hcm
              have qn := fun o => cell_later ((Below.refl wr.heap.size wr).alloc (Nat.le_refl _) o) hvm
              have qg := fun o => cell_later ((Below.refl wr.heap.size wr).alloc (Nat.le_refl _) o) hvl
              have HKN : Hid (k' ≤ 1000000000000000) := by show _ ≤ _; omega
              have hkle := HKN.out
              have hkge : 0 ≤ k' := hkn
              obtain ⟨C, hC⟩ : ∃ C, cwW (paA p).nx p.size s' (exF l l.length a) = C := ⟨_, rfl⟩
              have HCC := Lib.hid hC
              rw [hC] at qv hcw
              have hC0 : 0 ≤ C := hcw.1
              have hC1 : C ≤ 1000000000000000 := by omega
              have he0 : 0 ≤ e' := heb.1
              have he1 : e' + (gLn l).getD a 0 ≤ 1000000000000000 := by omega
              have hga0 := hga.1
              clear hD hb hz q1 q2 q3 q4 ha hc ht hex hall hip hallm him hcp hvp2 hcm hvm hvl hcw hcw2 hga hgc hgr heb hkn hkb hkw hkw2 hgrb hC HRU
              generalize hga' : (gLn l).getD a 0 = ga at *
              have HGA := Lib.hid hga'
              clear hga'
              by_cases hkc : k' < C
              · have hkcb : decide (k' < C) = true := decide_eq_true hkc
                have HKC := Lib.hid hkc
                clear hkc
                go_wp2
                go_roundw
                case rel => exact ⟨HB.out.alloc HB.out.size _, k', a, s', e', rfl, rfl, rfl, rfl, ds_left HOK.out HD.out HZ.out HAH.out (by rw [HCC.out]; exact HKC.out)⟩
                case measure => (simp [intOf]; omega)
              · have hkcb : decide (k' < C) = false := decide_eq_false hkc
                have HKC := Lib.hid (show C ≤ k' by omega)
                clear hkc
                go_wp2
                go_roundw
                case rel => exact ⟨HB.out.alloc HB.out.size _, k' - C, c, t, e' + ga, rfl, rfl, rfl, rfl, by have h9 := ds_right HP20.out HOK.out HD.out HZ.out HAH.out HCH.out HTH.out (by rw [HCC.out]; have := HKC.out; omega); rw [HCC.out, HGA.out] at h9; exact h9⟩
                case measure => (simp [intOf]; omega)
            · obtain ⟨hend, he0, he1⟩ := ds_end HP20.out HOK.out HD.out hz
              have HR := Lib.hid hend
              have hne := neq_empty hz
              have hne2 := not_empty hz
              have hp2 := HP20.out
              have hbf := HB6.out.trans (hb.mono HB6.out.size)
              clear hD hb hz HRU hend hc1 hc2
              go_wp2
              go_ret2
              exact ⟨by rw [HE1.out, HE2.out, if_neg (show ¬ enF p l (lastI (gLn l)) ≤ k by have := HKE.out; omega), if_neg (show ¬ enF p l (lastI (gLn l)) ≤ k by have := HKE.out; omega), HR.out]; rfl, hbf⟩
  · have e1 : patV p l k = 0 := by rw [patV, if_neg h0]
    have e2 : patC p l k = skC p l := by rw [patC, if_neg h0]
    have hcb : (skC p l == 0) = false := by rw [beq_eq_false_iff_ne]; exact h0
    have HCB := Lib.hid hcb
    rw [e1, e2]
    clear e1 e2 hg hsz hbx h0 hcb hk HLN
    generalize skC p l = c at *
    go_enter Try.func50, Try.ntmps50
    go_wp2_with fail
    refine HA.out.mono ?_
    rintro e w2 ⟨rfl, hb2⟩
    have BF := HBX.out _ hb2
    have hcb := HCB.out
    clear hb2 HA
    go_wp2
    go_ret2
    exact ⟨rfl, BF⟩
end Go.Proofs.Ytefcdkgfabaffaa
