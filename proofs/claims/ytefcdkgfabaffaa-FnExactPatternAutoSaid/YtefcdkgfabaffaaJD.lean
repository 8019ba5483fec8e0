/- ValidCoder, of the program and of the reference, and its law. -/
import Derived.Test.YtefcdkgfabaffaaJC
namespace Go.Proofs.Ytefcdkgfabaffaa
open Go.ChangeShapes Go.WideShapes Go.RowKit
set_option linter.unusedVariables false
set_option linter.unusedSimpArgs false
set_option maxHeartbeats 2000000
set_option maxRecDepth 100000
def okS (x : ByteArray) : Bool := decide (x.size ≤ 6) && validB x
def ouP (r : List ByteArray) : Prop := r.length = 4 ∧ ∀ l, l < 4 → okS (r.getD l ⟨#[]⟩) = true
instance (r : List ByteArray) : Decidable (ouP r) := by unfold ouP; infer_instance
def ouOk (t : Ts) : Bool := decide (∀ s, s < t.length → ouP (uA t s))
theorem ouOk_t {t : Ts} (h : ∀ s, s < t.length → ouP (uA t s)) : ouOk t = true := by unfold ouOk; exact decide_eq_true h
theorem ouOk_f {t : Ts} {k : Nat} (hk : k < t.length) (h : ¬ ouP (uA t k)) : ouOk t = false := by unfold ouOk; exact decide_eq_false (fun g => h (g k hk))
def coOk (a : Co) : Bool := maOk a.st a.sa a.nx && decide ((a.ou.length : Int) = a.st) && ouOk a.ou
def alS (xs : List ByteArray) : Bool := decide (∀ l, l < xs.length → okS (xs.getD l ⟨#[]⟩) = true)
theorem alS_t {xs : List ByteArray} (h : ∀ l, l < xs.length → okS (xs.getD l ⟨#[]⟩) = true) : alS xs = true := decide_eq_true h
theorem alS_f {xs : List ByteArray} {k : Nat} (hk : k < xs.length) (h : ¬ okS (xs.getD k ⟨#[]⟩) = true) : alS xs = false := decide_eq_false (fun g => h (g k hk))
theorem i_vc2 (x : ByteArray) (w : World) (hx : x.size ≤ 1048576) :
    Calls Try.prog 85 #[.string x] w fun e w' => e = .returned (.bool (!(okS x))) ∧ w = w' := by
  have HV := Lib.hid (fun w => i_ValidWord x w (by unfold maxLen; omega))
  cases hv : validB x
  · have hr : okS x = false := by simp [okS, hv]
    rw [hv] at HV
    rw [hr]
    clear hr hv
    go_enter Try.func85, Try.ntmps85
    go_wp2_with fail
    refine (HV.out _).mono ?_
    rintro e w3 ⟨rfl, rfl⟩
    go_wp2
    go_ret
    exact ⟨rfl, rfl⟩
  · rw [hv] at HV
    by_cases h6 : x.size ≤ 6
    · have hr : okS x = true := by simp [okS, hv, h6]
      have h6b : ¬ (6 : Int) < x.size := by omega
      rw [hr]
      clear hr hv h6
      go_enter Try.func85, Try.ntmps85
      go_wp2_with fail
      refine (HV.out _).mono ?_
      rintro e w3 ⟨rfl, rfl⟩
      go_wp2
      go_ret
      exact ⟨by simp [h6b], rfl⟩
    · have hr : okS x = false := by simp [okS, h6]
      have h6b : (6 : Int) < x.size := by omega
      rw [hr]
      clear hr hv h6
      go_enter Try.func85, Try.ntmps85
      go_wp2_with fail
      refine (HV.out _).mono ?_
      rintro e w3 ⟨rfl, rfl⟩
      go_wp2
      go_ret
      exact ⟨by simp [h6b], rfl⟩
theorem sl_indexS (v : Value) (xs : List ByteArray) (w : World) (hx : xs.length ≤ 1048576) (hr : ∀ x ∈ xs, x.size ≤ 1048576) (hin : InS w v xs) :
    Calls Try.prog 132 #[v, .func (.func 85) #[] #[]] w fun e w' => (∃ r : Int, e = .returned (.int .i64 r) ∧ decide (0 ≤ r) = !(alS xs)) ∧ w = w' := by
  obtain ⟨a, cap, rfl⟩ := inS_sl hin
  have HIN := Lib.hid hin
  have HR := Lib.hid hr
  have eF : ∀ args w, (callFunc 85 args).run Try.prog w = .ok (.enter 85 args) w := enters_of Try.func85 (by kernel_rfl) rfl
  clear hin hr
  go_enter Try.func132, Try.ntmps132
  go_wp2
  go_loop [5, 8] (fun _ i => ∃ k : Nat, k ≤ xs.length ∧ i = .int .i64 k ∧ ∀ t, t < k → okS (xs.getD t ⟨#[]⟩) = true) (fun _ i => xs.length - (intOf i).toNat)
  case atStart => exact ⟨0, by omega, rfl, fun t ht => by omega⟩
  case round =>
    obtain ⟨k, hk, rfl, hall⟩ := hrel
    have HALL := Lib.hid hall
    clear hall
    by_cases hlt : k < xs.length
    · obtain ⟨g, off, rfl, hg, hx1⟩ := inS_at HIN.out hlt
      have hin : ((k : Nat) : Int) < xs.length := by omega
      have HC := Lib.hid (fun w => i_vc2 (xs.getD k ⟨#[]⟩) w (HR.out _ (get_mem hlt)))
      cases hrr : okS (xs.getD k ⟨#[]⟩)
      · have H2 := Lib.hid (alS_f hlt (by rw [hrr]; decide))
        rw [hrr] at HC
        clear hrr
        generalize xs.getD k ⟨#[]⟩ = x at *
        go_wp2_with fail
        refine (HC.out _).mono ?_
        rintro e w3 ⟨rfl, rfl⟩
        go_wp2
        go_ret
        exact ⟨⟨_, rfl, by rw [H2.out]; simp⟩, rfl⟩
      · have H2 : Hid (∀ t, t < k + 1 → okS (xs.getD t ⟨#[]⟩) = true) := by
          intro q hq
          by_cases he : q = k
          · subst he; exact hrr
          · exact HALL.out q (by omega)
        rw [hrr] at HC
        clear hrr
        generalize xs.getD k ⟨#[]⟩ = x at *
        go_wp2_with fail
        refine (HC.out _).mono ?_
        rintro e w3 ⟨rfl, rfl⟩
        go_wp2
        go_round
        case rel => exact ⟨k + 1, by omega, by go_num, H2.out⟩
        case measure => first | (simp [intOf]; done) | (simp [intOf]; omega)
    · have ek : k = xs.length := by omega
      subst ek
      have HF := Lib.hid (alS_t HALL.out)
      have hk' : ¬ (xs.length : Int) < xs.length := by omega
      go_wp2
      go_ret
      exact ⟨⟨_, rfl, by rw [HF.out]; simp⟩, rfl⟩
theorem sl_containsS (v : Value) (xs : List ByteArray) (w : World) (hx : xs.length ≤ 1048576) (hr : ∀ x ∈ xs, x.size ≤ 1048576) (hin : InS w v xs) :
    Calls Try.prog 84 #[v, .func (.func 85) #[] #[]] w fun e w' => e = .returned (.bool (!(alS xs))) ∧ w = w' := by
  have H := Lib.hid (sl_indexS v xs w hx hr hin)
  clear hin hr
  generalize alS xs = al at *
  go_enter Try.func84, Try.ntmps84
  go_wp2_with fail
  refine H.out.mono ?_
  rintro e w3 ⟨⟨r, rfl, hr⟩, rfl⟩
  have HRR := Lib.hid hr
  clear hr
  go_wp2
  go_ret
  exact ⟨ret_bool HRR.out, rfl⟩
def ouB (r : List ByteArray) : Bool := decide (r.length = 4) && alS r
theorem ouB_iff (r : List ByteArray) : ouB r = true ↔ ouP r := by
  unfold ouB ouP alS
  rw [Bool.and_eq_true, decide_eq_true_iff, decide_eq_true_iff]
  constructor
  · rintro ⟨h1, h2⟩; exact ⟨h1, fun l hl => h2 l (by omega)⟩
  · rintro ⟨h1, h2⟩; exact ⟨h1, fun l hl => h2 l (by omega)⟩
theorem i_vc1 (v : Value) (xs : List ByteArray) (w : World) (hx : xs.length ≤ 1048576) (hr : ∀ x ∈ xs, x.size ≤ 1048576) (hin : InS w v xs) :
    Calls Try.prog 83 #[v] w fun e w' => e = .returned (.bool (!(ouB xs))) ∧ w = w' := by
  obtain ⟨a, cap, rfl⟩ := inS_sl hin
  have H := Lib.hid (sl_containsS _ xs w hx hr hin)
  clear hin hr
  by_cases h4 : xs.length = 4
  · have hr : ouB xs = alS xs := by simp [ouB, h4]
    have h4b : ((xs.length : Int) != 4) = false := by simp [h4]
    rw [hr]
    clear hr h4
    generalize alS xs = al at *
    go_enter Try.func83, Try.ntmps83
    go_wp2_with fail
    refine H.out.mono ?_
    rintro e w3 ⟨rfl, rfl⟩
    go_wp2
    go_ret
    exact ⟨rfl, rfl⟩
  · have hr : ouB xs = false := by simp [ouB, h4]
    have h4b : ((xs.length : Int) != 4) = true := by simp only [bne_iff_ne, ne_eq]; omega
    rw [hr]
    clear hr h4
    go_enter Try.func83, Try.ntmps83
    go_wp2
    go_ret
    exact ⟨rfl, rfl⟩
theorem sl_indexU (v : Value) (t : Ts) (w : World) (hx : t.length ≤ 1048576) (hr : ∀ r ∈ t, r.length ≤ 1048576) (hs : ∀ r ∈ t, ∀ x ∈ r, x.size ≤ 1048576) (hin : InU w v t) :
    Calls Try.prog 131 #[v, .func (.func 83) #[] #[]] w fun e w' => (∃ r : Int, e = .returned (.int .i64 r) ∧ decide (0 ≤ r) = !(ouOk t)) ∧ w = w' := by
  obtain ⟨a, cap, rfl⟩ := inU_sl hin
  have HIN := Lib.hid hin
  have HR := Lib.hid hr
  have HS := Lib.hid hs
  have eF : ∀ args w, (callFunc 83 args).run Try.prog w = .ok (.enter 83 args) w := enters_of Try.func83 (by kernel_rfl) rfl
  clear hin hr hs
  go_enter Try.func131, Try.ntmps131
  go_wp2
  go_loop [5, 8] (fun _ i => ∃ k : Nat, k ≤ t.length ∧ i = .int .i64 k ∧ ∀ s, s < k → ouP (uA t s)) (fun _ i => t.length - (intOf i).toNat)
  case atStart => exact ⟨0, by omega, rfl, fun t ht => by omega⟩
  case round =>
    obtain ⟨k, hk, rfl, hall⟩ := hrel
    have HALL := Lib.hid hall
    clear hall
    by_cases hlt : k < t.length
    · obtain ⟨b, off, r, c, rfl, hbl, hc0, hri⟩ := inU_at HIN.out hlt
      have hin : ((k : Nat) : Int) < t.length := by omega
      have HC := Lib.hid (i_vc1 _ _ w (HR.out _ (uA_mem hlt)) (HS.out _ (uA_mem hlt)) hri)
      clear hri
      by_cases hrr : ouP (uA t k)
      · have e1 := (ouB_iff (uA t k)).2 hrr
        rw [e1] at HC
        have H2 : Hid (∀ s, s < k + 1 → ouP (uA t s)) := by
          intro q hq
          by_cases he : q = k
          · subst he; exact hrr
          · exact HALL.out q (by omega)
        clear hrr e1
        generalize (uA t k).length = m at *
        go_wp2_with fail
        refine HC.out.mono ?_
        rintro e w3 ⟨rfl, rfl⟩
        go_wp2
        go_round
        case rel => exact ⟨k + 1, by omega, by go_num, H2.out⟩
        case measure => first | (simp [intOf]; done) | (simp [intOf]; omega)
      · have e1 : ouB (uA t k) = false := by
          cases h : ouB (uA t k)
          · rfl
          · exact absurd ((ouB_iff _).1 h) hrr
        rw [e1] at HC
        have H2 := Lib.hid (ouOk_f hlt hrr)
        clear hrr e1
        generalize (uA t k).length = m at *
        go_wp2_with fail
        refine HC.out.mono ?_
        rintro e w3 ⟨rfl, rfl⟩
        go_wp2
        go_ret
        exact ⟨⟨_, rfl, by rw [H2.out]; simp⟩, rfl⟩
    · have ek : k = t.length := by omega
      subst ek
      have HF := Lib.hid (ouOk_t HALL.out)
      have hk' : ¬ (t.length : Int) < t.length := by omega
      go_wp2
      go_ret
      exact ⟨⟨_, rfl, by rw [HF.out]; simp⟩, rfl⟩
theorem sl_containsU (v : Value) (t : Ts) (w : World) (hx : t.length ≤ 1048576) (hr : ∀ r ∈ t, r.length ≤ 1048576) (hs : ∀ r ∈ t, ∀ x ∈ r, x.size ≤ 1048576) (hin : InU w v t) :
    Calls Try.prog 82 #[v, .func (.func 83) #[] #[]] w fun e w' => e = .returned (.bool (!(ouOk t))) ∧ w = w' := by
  have H := Lib.hid (sl_indexU v t w hx hr hs hin)
  clear hin hr hs
  generalize ouOk t = al at *
  go_enter Try.func82, Try.ntmps82
  go_wp2_with fail
  refine H.out.mono ?_
  rintro e w3 ⟨⟨r, rfl, hr⟩, rfl⟩
  have HRR := Lib.hid hr
  clear hr
  go_wp2
  go_ret
  exact ⟨ret_bool HRR.out, rfl⟩
theorem i_ValidCoder (uF uT : Value) (a : Co) (w : World) (hs : coSm a) (h1 : InT w uF a.nx) (h2 : InU w uT a.ou) :
    Calls Try.prog 31 #[.agg #[.int .i64 a.st, .int .i64 a.sa, uF, uT]] w fun e w' => e = .returned (.bool (coOk a)) ∧ Below w.heap.size w w' := by
  obtain ⟨a2, c2, rfl⟩ := inU_sl h2
  have hbx := (Below.refl w.heap.size w).alloc (Nat.le_refl _) (.cells #[.int .i64 a.st, .int .i64 a.sa, uF, .slice a2 a.ou.length c2] 42)
  have HM := Lib.hid (i_isMachine a.st a.sa uF a.nx _ hs.1.1 hs.1.2 (inT_below h1 hbx))
  have HC := Lib.hid (fun w h => sl_containsU (.slice a2 a.ou.length c2) a.ou w hs.2.1 hs.2.2.1 hs.2.2.2 h)
  have HU := Lib.hid (inU_below h2 hbx)
  have HBX := Lib.hid hbx
  have e0 : (w.alloc (.cells #[.int .i64 a.st, .int .i64 a.sa, uF, .slice a2 a.ou.length c2] 42)).cell? ⟨w.heap.size, 0, none⟩ = some (.int .i64 a.st) := by simp [go_sem]
  have e3 : (w.alloc (.cells #[.int .i64 a.st, .int .i64 a.sa, uF, .slice a2 a.ou.length c2] 42)).cell? ⟨w.heap.size, 3, none⟩ = some (.slice a2 a.ou.length c2) := by simp [go_sem]
  have HE : Hid (coOk a = (maOk a.st a.sa a.nx && decide ((a.ou.length : Int) = a.st) && ouOk a.ou)) := rfl
  have hlen := hs.2.1
  clear h1 h2 hs hbx
  generalize coOk a = r at *
  generalize ouOk a.ou = oo at *
  cases hmo : maOk a.st a.sa a.nx
  · have HF : Hid (r = false) := by show _ = _; rw [HE.out, hmo]; rfl
    rw [hmo] at HM
    clear hmo HE
    generalize a.st = st at *
    generalize a.sa = sa at *
    generalize a.ou.length = n at *
    go_enter Try.func31, Try.ntmps31
    go_wp2_with fail
    refine HM.out.mono ?_
    rintro e w3 ⟨rfl, hb3⟩
    have hB := HBX.out.trans (hb3.mono HBX.out.size)
    clear hb3 e0 e3
    go_wp2
    go_ret
    exact ⟨ret_bool HF.out.symm, hB⟩
  · rw [hmo] at HM
    by_cases hl : (a.ou.length : Int) = a.st
    · have hlb : ((a.ou.length : Int) == a.st) = true := by simpa using hl
      have HF : Hid (r = oo) := by show _ = _; rw [HE.out, hmo]; simp [hl]
      clear hmo HE hl
      generalize a.st = st at *
      generalize a.sa = sa at *
      go_enter Try.func31, Try.ntmps31
      go_wp2_with fail
      refine HM.out.mono ?_
      rintro e w3 ⟨rfl, hb3⟩
      have hB := HBX.out.trans (hb3.mono HBX.out.size)
      have f0 := cell_later hb3 e0
      have f3 := cell_later hb3 e3
      have HC3 := Lib.hid (HC.out w3 (inU_below HU.out hb3))
      clear hb3 e0 e3
      go_wp2_with fail
      refine HC3.out.mono ?_
      rintro e w4 ⟨rfl, rfl⟩
      go_wp2
      go_ret
      exact ⟨by rw [HF.out]; simp, hB⟩
    · have hlb : ((a.ou.length : Int) == a.st) = false := by simpa using hl
      have HF : Hid (r = false) := by show _ = _; rw [HE.out]; simp [hl]
      clear hmo HE hl
      generalize a.st = st at *
      generalize a.sa = sa at *
      generalize a.ou.length = n at *
      go_enter Try.func31, Try.ntmps31
      go_wp2_with fail
      refine HM.out.mono ?_
      rintro e w3 ⟨rfl, hb3⟩
      have hB := HBX.out.trans (hb3.mono HBX.out.size)
      have f0 := cell_later hb3 e0
      have f3 := cell_later hb3 e3
      clear hb3 e0 e3
      go_wp2
      go_ret
      exact ⟨ret_bool HF.out.symm, hB⟩
theorem coOk_ma {a : Co} (h : maOk a.st a.sa a.nx = false) : coOk a = false := by simp only [coOk, h, Bool.false_and]
theorem maOk_st {st sa : Int} {t : Tb} (h : ¬ (1 ≤ st ∧ st ≤ 24)) : maOk st sa t = false := by simp only [maOk, h, decide_false, Bool.false_and]
theorem maOk_sa {st sa : Int} {t : Tb} (h : ¬ (0 ≤ sa ∧ sa ≤ st - 1)) : maOk st sa t = false := by simp only [maOk, h, decide_false, Bool.and_false, Bool.false_and]
theorem maOk_nx {st sa : Int} {t : Tb} (h1 : 1 ≤ st ∧ st ≤ 24) (h2 : 0 ≤ sa ∧ sa ≤ st - 1) : maOk st sa t = (nxOk (st - 1) t && decide ((t.length : Int) = st)) := by simp only [maOk, h1, h2, and_self, decide_true, Bool.true_and]
theorem s_l04Coder (bq oq : Nat) (uF uT : Value) (a : Co) (w : World) (hs : coSm a) (c0 : w.cell? ⟨bq, oq, none⟩ = some (.int .i64 a.st)) (c1 : w.cell? ⟨bq, oq + 1, none⟩ = some (.int .i64 a.sa)) (c2 : w.cell? ⟨bq, oq + 2, none⟩ = some uF) (c3 : w.cell? ⟨bq, oq + 3, none⟩ = some uT) (h1 : InT w uF a.nx) (h2 : InU w uT a.ou) :
    Calls Try.prog 80 #[.pointer (some ⟨bq, oq, none⟩)] w fun e w' => e = .returned (.bool (coOk a)) ∧ Qt w w' := by
  obtain ⟨a2, cap2, rfl⟩ := inU_sl h2
  by_cases hst : 1 ≤ a.st ∧ a.st ≤ 24
  · have HW1 := Lib.hid (fun w => s_l00In_r a.st 1 24 true (in_t hst) w)
    by_cases hsa : 0 ≤ a.sa ∧ a.sa ≤ a.st - 1
    · have HW2 := Lib.hid (fun w => s_l00In_r a.sa 0 (a.st - 1) true (in_t hsa) w)
      have HN := Lib.hid (fun w h => s_l04Next uF a.nx a.st w hst.1 hst.2 hs.1.1 hs.1.2 h)
      have HI1 := Lib.hid h1
      have hma := maOk_nx (t := a.nx) hst hsa
      cases hnx : (nxOk (a.st - 1) a.nx && decide ((a.nx.length : Int) = a.st))
      · have HF := Lib.hid (coOk_ma (a := a) (by rw [hma]; exact hnx))
        rw [hnx] at HN
        clear h1 h2 hs hsa hma hnx
        generalize a.ou.length = n at *
        generalize a.st = st at *
        generalize a.sa = sa at *
        obtain ⟨hst1, hst2⟩ := hst
        go_enter Try.func80, Try.ntmps80
        go_wp2
        go_big_quiet (first | (go_at_call 112; first | with_reducible exact (HW1.out _).mono (fun e w'' h => ⟨h.1, _, h.2.symm⟩) | with_reducible exact (HW2.out _).mono (fun e w'' h => ⟨h.1, _, h.2.symm⟩)) | (go_at_call 121; exact (HN.out _ (inT_below HI1.out (below_drewN (Below.refl _ _) _))).mono (fun e w'' h => ⟨h.1, _, h.2.symm⟩)))
        go_wp2
        go_ret
        exact ⟨ret_bool HF.out.symm, ⟨_, rfl⟩⟩
      · rw [hnx] at HN hma
        have HE : Hid (coOk a = (decide ((a.ou.length : Int) = a.st) && ouOk a.ou)) := by show _ = _; simp only [coOk, hma, Bool.true_and]
        have HIU := Lib.hid h2
        have HL := Lib.hid (fun (x : ByteArray) (hx : x.size ≤ 1048576) (w : World) => s_l01Ok x w (by unfold maxLen; omega))
        have HOS := Lib.hid hs.2.2.2
        have hol := hs.2.1
        clear h1 h2 hs hsa hma hnx
        generalize a.nx = nx at *
        generalize a.st = st at *
        generalize a.sa = sa at *
        obtain ⟨hst1, hst2⟩ := hst
        by_cases hl : (a.ou.length : Int) = st
        · have hlb : ((a.ou.length : Int) != st) = false := by simpa using hl
          have HE2 : Hid (coOk a = ouOk a.ou) := by show _ = _; rw [HE.out]; simp [hl]
          clear hl HE
          generalize coOk a = r at *
          generalize a.ou = t at *
          go_enter Try.func80, Try.ntmps80
          go_wp2
          go_big_quiet (first | (go_at_call 112; first | with_reducible exact (HW1.out _).mono (fun e w'' h => ⟨h.1, _, h.2.symm⟩) | with_reducible exact (HW2.out _).mono (fun e w'' h => ⟨h.1, _, h.2.symm⟩)) | (go_at_call 121; exact (HN.out _ (inT_below HI1.out (below_drewN (Below.refl _ _) _))).mono (fun e w'' h => ⟨h.1, _, h.2.symm⟩)))
          have d3 : (w.drewN nq).cell? ⟨bq, oq + 3, none⟩ = some (.slice a2 t.length cap2) := by simpa using c3
          have HIU2 := Lib.hid (inU_below HIU.out (below_drewN (Below.refl _ _) nq))
          have HQ : Hid (Qt w (w.drewN nq)) := ⟨_, rfl⟩
          generalize w.drewN nq = w9 at *
          go_wp2
          go_loop [3, 4] (fun i _ => ∃ k : Nat, k ≤ t.length ∧ i = .int .i64 k ∧ ∀ s, s < k → ouP (uA t s)) (fun i _ => t.length - (intOf i).toNat)
          case atStart => exact ⟨0, by omega, rfl, fun t ht => by omega⟩
          case round =>
            obtain ⟨k, hk, rfl, hall⟩ := hrel
            have HALL := Lib.hid hall
            clear hall
            by_cases hlt : k < t.length
            · obtain ⟨b, off, r9, c9, rfl, hbl, hc0, hri⟩ := inU_at HIU2.out hlt
              have hin : ((k : Nat) : Int) < t.length := by omega
              have HF := Lib.hid (fun h => ouOk_f hlt h)
              have HT : Hid (ouP (uA t k) → ∀ s, s < k + 1 → ouP (uA t s)) := by
                intro h s hs
                by_cases he : s = k
                · subst he; exact h
                · exact HALL.out s (by omega)
              have HRI := Lib.hid hri
              have HSZ := Lib.hid (HOS.out _ (uA_mem hlt))
              clear hri
              generalize uA t k = rw' at *
              by_cases h4 : rw'.length = 4
              · have h4b : ((rw'.length : Int) != 4) = false := by simp [h4]
                have H4 := Lib.hid h4
                clear h4
                go_wp2
                go_loop [4] (fun i => ∃ l : Nat, l ≤ 4 ∧ i = .int .i64 l ∧ ∀ q, q < l → okS (rw'.getD q ⟨#[]⟩) = true) (fun i => 4 - (intOf i).toNat)
                case atStart => exact ⟨0, by omega, rfl, fun q hq => by omega⟩
                case round =>
                  obtain ⟨l, hl, rfl, hin4⟩ := hrel
                  have HIN4 := Lib.hid hin4
                  clear hin4
                  by_cases hl4 : l < 4
                  · obtain ⟨b2, off2, rfl, hb2, hcx⟩ := inS_at HRI.out (show l < rw'.length by have := H4.out; omega)
                    have hlI : (l : Int) < rw'.length := by have := H4.out; omega
                    have hxs := HSZ.out _ (get_mem (show l < rw'.length by have := H4.out; omega))
                    have HLX := Lib.hid (HL.out (rw'.getD l ⟨#[]⟩) hxs)
                    have HOK : Hid (okS (rw'.getD l ⟨#[]⟩) = (decide ((rw'.getD l ⟨#[]⟩).size ≤ 6) && validB (rw'.getD l ⟨#[]⟩))) := rfl
                    have H2 : Hid (okS (rw'.getD l ⟨#[]⟩) = true → ∀ q, q < l + 1 → okS (rw'.getD q ⟨#[]⟩) = true) := by
                      intro h q hq
                      by_cases he : q = l
                      · subst he; exact h
                      · exact HIN4.out q (by omega)
                    have H3 : Hid (okS (rw'.getD l ⟨#[]⟩) = false → ouOk t = false) := fun h => HF.out (fun g => by have := g.2 l hl4; rw [h] at this; cases this)
                    generalize rw'.getD l ⟨#[]⟩ = x at *
                    by_cases h6 : x.size ≤ 6
                    · have h6b : ¬ (6 : Int) < x.size := by omega
                      cases hv : validB x
                      · have H5 := Lib.hid (H3.out (by rw [HOK.out, hv]; simp))
                        rw [hv] at HLX
                        clear hv h6
                        go_wp2_with fail
                        refine (HLX.out _).mono ?_
                        rintro e w3 ⟨rfl, rfl⟩
                        go_wp2
                        go_ret
                        exact ⟨ret_bool (by rw [HE2.out, H5.out]), HQ.out⟩
                      · have H5 := Lib.hid (H2.out (by rw [HOK.out, hv]; simp [h6]))
                        rw [hv] at HLX
                        clear hv h6
                        go_wp2_with fail
                        refine (HLX.out _).mono ?_
                        rintro e w3 ⟨rfl, rfl⟩
                        go_wp2
                        go_round
                        case rel => exact ⟨l + 1, by omega, by go_num, H5.out⟩
                        case measure => first | (simp [intOf]; done) | (simp [intOf]; omega)
                    · have h6b : (6 : Int) < x.size := by omega
                      have H5 := Lib.hid (H3.out (by rw [HOK.out]; simp [h6]))
                      clear h6
                      go_wp2
                      go_ret
                      exact ⟨ret_bool (by rw [HE2.out, H5.out]), HQ.out⟩
                  · have el : l = 4 := by omega
                    subst el
                    have H2 := Lib.hid (HT.out ⟨H4.out, HIN4.out⟩)
                    go_wp2
                    go_round
                    case rel => exact ⟨k + 1, by omega, by go_num, H2.out⟩
                    case measure => first | (simp [intOf]; done) | (simp [intOf]; omega)
              · have h4b : ((rw'.length : Int) != 4) = true := by simp only [bne_iff_ne, ne_eq]; omega
                have H2 := Lib.hid (HF.out (fun h => h4 h.1))
                clear h4
                go_wp2
                go_ret
                exact ⟨ret_bool (by rw [HE2.out, H2.out]), HQ.out⟩
            · have ek : k = t.length := by omega
              subst ek
              have HF := Lib.hid (ouOk_t HALL.out)
              have hk' : ¬ (t.length : Int) < t.length := by omega
              go_wp2
              go_ret
              exact ⟨ret_bool (by rw [HE2.out, HF.out]), HQ.out⟩
        · have hlb : ((a.ou.length : Int) != st) = true := by simpa using hl
          have HF : Hid (coOk a = false) := by show _ = _; rw [HE.out]; simp [hl]
          clear hl HE
          generalize a.ou.length = n at *
          go_enter Try.func80, Try.ntmps80
          go_wp2
          go_big_quiet (first | (go_at_call 112; first | with_reducible exact (HW1.out _).mono (fun e w'' h => ⟨h.1, _, h.2.symm⟩) | with_reducible exact (HW2.out _).mono (fun e w'' h => ⟨h.1, _, h.2.symm⟩)) | (go_at_call 121; exact (HN.out _ (inT_below HI1.out (below_drewN (Below.refl _ _) _))).mono (fun e w'' h => ⟨h.1, _, h.2.symm⟩)))
          go_wp2
          go_ret
          exact ⟨ret_bool HF.out.symm, ⟨_, rfl⟩⟩
    · have HW2 := Lib.hid (fun w => s_l00In_r a.sa 0 (a.st - 1) false (in_f hsa) w)
      have HF := Lib.hid (coOk_ma (a := a) (maOk_sa hsa))
      clear h1 h2 hs hsa
      generalize a.ou.length = n at *
      generalize a.st = st at *
      generalize a.sa = sa at *
      obtain ⟨hst1, hst2⟩ := hst
      go_enter Try.func80, Try.ntmps80
      go_wp2
      go_big_quiet ((go_at_call 112; first | with_reducible exact (HW1.out _).mono (fun e w'' h => ⟨h.1, _, h.2.symm⟩) | with_reducible exact (HW2.out _).mono (fun e w'' h => ⟨h.1, _, h.2.symm⟩)))
      go_wp2
      go_ret
      exact ⟨ret_bool HF.out.symm, ⟨_, rfl⟩⟩
  · have HW1 := Lib.hid (fun w => s_l00In_r a.st 1 24 false (in_f hst) w)
    have HF := Lib.hid (coOk_ma (a := a) (maOk_st hst))
    clear h1 h2 hs hst
    generalize a.ou.length = n at *
    generalize a.st = st at *
    generalize a.sa = sa at *
    go_enter Try.func80, Try.ntmps80
    go_wp2
    go_big_quiet ((go_at_call 112; exact (HW1.out _).mono (fun e w'' h => ⟨h.1, _, h.2.symm⟩)))
    go_wp2
    go_ret
    exact ⟨ret_bool HF.out.symm, ⟨_, rfl⟩⟩
theorem s_ValidCoder (uF uT : Value) (a : Co) (w : World) (hs : coSm a) (h1 : InT w uF a.nx) (h2 : InU w uT a.ou) :
    Calls Try.prog 29 #[.agg #[.int .i64 a.st, .int .i64 a.sa, uF, uT]] w fun e w' => e = .returned (.bool (coOk a)) ∧ Below w.heap.size w w' := by
  have hbx := (Below.refl w.heap.size w).alloc (Nat.le_refl _) (.cells #[.int .i64 a.st, .int .i64 a.sa, uF, uT] 42)
  have H := Lib.hid (s_l04Coder w.heap.size 0 uF uT a _ hs (by simp [go_sem]) (by simp [go_sem]) (by simp [go_sem]) (by simp [go_sem]) (inT_below h1 hbx) (inU_below h2 hbx))
  have HBX := Lib.hid hbx
  clear h1 h2 hs hbx
  generalize coOk a = r at *
  go_enter Try.func29, Try.ntmps29
  go_wp2_with fail
  refine H.out.mono ?_
  rintro e w2 ⟨rfl, q, rfl⟩
  go_wp2
  go_ret
  exact ⟨rfl, below_drewN HBX.out _⟩
end Go.Proofs.Ytefcdkgfabaffaa
