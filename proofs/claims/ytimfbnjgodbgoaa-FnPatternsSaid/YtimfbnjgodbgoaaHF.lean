/- ValidAuto of the program, and its law. -/
import Derived.Test.YtimfbnjgodbgoaaHE
import Derived.Shelf.Abstract
namespace Go.Proofs.Ytimfbnjgodbgoaa
open Go.ChangeShapes Go.WideShapes Go.RowKit
set_option linter.unusedVariables false
set_option linter.unusedSimpArgs false
set_option maxHeartbeats 2000000
set_option maxRecDepth 100000
def alB (m : Int) (xs : List Int) : Bool := decide (∀ l, l < xs.length → 0 ≤ xs.getD l 0 ∧ xs.getD l 0 ≤ m)
theorem alB_t {m : Int} {xs : List Int} (h : ∀ l, l < xs.length → 0 ≤ xs.getD l 0 ∧ xs.getD l 0 ≤ m) : alB m xs = true := decide_eq_true h
theorem alB_f {m : Int} {xs : List Int} {k : Nat} (hk : k < xs.length) (h : ¬ (0 ≤ xs.getD k 0 ∧ xs.getD k 0 ≤ m)) : alB m xs = false := decide_eq_false (fun g => h (g k hk))
theorem i_mach2 (bs : Nat) (st s : Int) (r : Bool) (w : World) (h1 : 1 ≤ st) (h2 : st ≤ 24) (hr : (decide (0 ≤ s) && decide (s ≤ st - 1)) = r) (hc : w.cell? ⟨bs, 0, none⟩ = some (.int .i64 st)) :
    Calls Try.prog 80 #[.int .i64 s, .pointer (some ⟨bs, 0, none⟩)] w fun e w' => e = .returned (.bool (!r)) ∧ w = w' := by
  have HW := Lib.hid (fun w => i_within_r s 0 (st - 1) r hr w)
  clear hr
  go_enter Try.func80, Try.ntmps80
  go_wp2_with fail
  refine (HW.out _).mono ?_
  rintro e w3 ⟨rfl, rfl⟩
  go_wp2
  go_ret
  exact ⟨rfl, rfl⟩
theorem sl_indexI (bs : Nat) (st : Int) (v : Value) (xs : List Int) (w : World) (h1 : 1 ≤ st) (h2 : st ≤ 24) (hx : xs.length ≤ 1048576) (hin : InI w v xs) (hc : w.cell? ⟨bs, 0, none⟩ = some (.int .i64 st)) :
    Calls Try.prog 83 #[v, .func (.func 80) #[] #[.pointer (some ⟨bs, 0, none⟩)]] w fun e w' => (∃ r : Int, e = .returned (.int .i64 r) ∧ decide (0 ≤ r) = !(alB (st - 1) xs)) ∧ w = w' := by
  obtain ⟨a, cap, rfl⟩ := inI_sl hin
  have HIN := Lib.hid hin
  have HM := Lib.hid (fun s r hr => i_mach2 bs st s r w h1 h2 hr hc)
  have eF : ∀ args w, (callFunc 80 args).run Try.prog w = .ok (.enter 80 args) w := enters_of Try.func80 (by kernel_rfl) rfl
  clear hin hc
  go_enter Try.func83, Try.ntmps83
  go_wp2
  go_loop [5, 8] (fun _ i => ∃ k : Nat, k ≤ xs.length ∧ i = .int .i64 k ∧ ∀ t, t < k → 0 ≤ xs.getD t 0 ∧ xs.getD t 0 ≤ st - 1) (fun _ i => xs.length - (intOf i).toNat)
  case atStart => exact ⟨0, by omega, rfl, fun t ht => by omega⟩
  case round =>
    obtain ⟨k, hk, rfl, hall⟩ := hrel
    have HALL := Lib.hid hall
    clear hall
    by_cases hlt : k < xs.length
    · obtain ⟨g, off, rfl, hg, hx1⟩ := inI_at HIN.out hlt
      have hin : ((k : Nat) : Int) < xs.length := by omega
      by_cases hr : 0 ≤ xs.getD k 0 ∧ xs.getD k 0 ≤ st - 1
      · have HC := Lib.hid (HM.out (xs.getD k 0) true (in_t hr))
        have H2 : Hid (∀ t, t < k + 1 → 0 ≤ xs.getD t 0 ∧ xs.getD t 0 ≤ st - 1) := by
          intro q hq
          by_cases he : q = k
          · subst he; exact hr
          · exact HALL.out q (by omega)
        clear hr
        generalize xs.getD k 0 = x at *
        go_wp2_with fail
        refine HC.out.mono ?_
        rintro e w3 ⟨rfl, rfl⟩
        go_wp2
        go_round
        case rel => exact ⟨k + 1, by omega, by go_num, H2.out⟩
        case measure => first | (simp [intOf]; done) | (simp [intOf]; omega)
      · have HC := Lib.hid (HM.out (xs.getD k 0) false (in_f hr))
        have H2 := Lib.hid (alB_f hlt hr)
        clear hr
        generalize xs.getD k 0 = x at *
        go_wp2_with fail
        refine HC.out.mono ?_
        rintro e w3 ⟨rfl, rfl⟩
        go_wp2
        go_ret
        exact ⟨⟨_, rfl, by rw [H2.out]; simp⟩, rfl⟩
    · have ek : k = xs.length := by omega
      subst ek
      have HF := Lib.hid (alB_t (m := st - 1) HALL.out)
      have hk' : ¬ (xs.length : Int) < xs.length := by omega
      go_wp2
      go_ret
      exact ⟨⟨_, rfl, by rw [HF.out]; simp⟩, rfl⟩
theorem sl_containsI (bs : Nat) (st : Int) (v : Value) (xs : List Int) (w : World) (h1 : 1 ≤ st) (h2 : st ≤ 24) (hx : xs.length ≤ 1048576) (hin : InI w v xs) (hc : w.cell? ⟨bs, 0, none⟩ = some (.int .i64 st)) :
    Calls Try.prog 79 #[v, .func (.func 80) #[] #[.pointer (some ⟨bs, 0, none⟩)]] w fun e w' => e = .returned (.bool (!(alB (st - 1) xs))) ∧ w = w' := by
  have H := Lib.hid (sl_indexI bs st v xs w h1 h2 hx hin hc)
  clear hin hc
  generalize alB (st - 1) xs = al at *
  go_enter Try.func79, Try.ntmps79
  go_wp2_with fail
  refine H.out.mono ?_
  rintro e w3 ⟨⟨r, rfl, hr⟩, rfl⟩
  have HRR := Lib.hid hr
  clear hr
  go_wp2
  go_ret
  exact ⟨ret_bool HRR.out, rfl⟩
def roB (m : Int) (r : List Int) : Bool := decide (r.length = 4) && alB m r
theorem roB_iff (m : Int) (r : List Int) : roB m r = true ↔ roP m r := by
  unfold roB roP alB
  rw [Bool.and_eq_true, decide_eq_true_iff, decide_eq_true_iff]
  constructor
  · rintro ⟨h1, h2⟩; exact ⟨h1, fun l hl => h2 l (by omega)⟩
  · rintro ⟨h1, h2⟩; exact ⟨h1, fun l hl => h2 l (by omega)⟩
theorem i_mach1 (bs : Nat) (st : Int) (v : Value) (xs : List Int) (w : World) (h1 : 1 ≤ st) (h2 : st ≤ 24) (hx : xs.length ≤ 1048576) (hin : InI w v xs) (hc : w.cell? ⟨bs, 0, none⟩ = some (.int .i64 st)) :
    Calls Try.prog 78 #[v, .pointer (some ⟨bs, 0, none⟩)] w fun e w' => e = .returned (.bool (!(roB (st - 1) xs))) ∧ w = w' := by
  obtain ⟨a, cap, rfl⟩ := inI_sl hin
  have H := Lib.hid (sl_containsI bs st _ xs w h1 h2 hx hin hc)
  have hmf : ∀ (fn : Fn) (first cap : Array Value) (w : World), (Instr.makeFunc fn first cap).run Try.prog w = .ok (.func fn first cap) w := fun _ _ _ _ => rfl
  clear hin hc
  by_cases h4 : xs.length = 4
  · have hr : roB (st - 1) xs = alB (st - 1) xs := by simp [roB, h4]
    have h4b : ((xs.length : Int) != 4) = false := by simp [h4]
    rw [hr]
    clear hr h4
    generalize alB (st - 1) xs = al at *
    go_enter Try.func78, Try.ntmps78
    go_wp2_with fail
    refine H.out.mono ?_
    rintro e w3 ⟨rfl, rfl⟩
    go_wp2
    go_ret
    exact ⟨rfl, rfl⟩
  · have hr : roB (st - 1) xs = false := by simp [roB, h4]
    have h4b : ((xs.length : Int) != 4) = true := by simp only [bne_iff_ne, ne_eq]; omega
    rw [hr]
    clear hr h4
    go_enter Try.func78, Try.ntmps78
    go_wp2
    go_ret
    exact ⟨rfl, rfl⟩
theorem sl_indexT (bs : Nat) (st : Int) (v : Value) (t : Tb) (w : World) (h1 : 1 ≤ st) (h2 : st ≤ 24) (hx : t.length ≤ 1048576) (hr : ∀ r ∈ t, r.length ≤ 1048576) (hin : InT w v t) (hc : w.cell? ⟨bs, 0, none⟩ = some (.int .i64 st)) :
    Calls Try.prog 82 #[v, .func (.func 78) #[] #[.pointer (some ⟨bs, 0, none⟩)]] w fun e w' => (∃ r : Int, e = .returned (.int .i64 r) ∧ decide (0 ≤ r) = !(nxOk (st - 1) t)) ∧ w = w' := by
  obtain ⟨a, cap, rfl⟩ := inT_sl hin
  have HIN := Lib.hid hin
  have HR := Lib.hid hr
  have HM := Lib.hid (fun v xs hx hi => i_mach1 bs st v xs w h1 h2 hx hi hc)
  have eF : ∀ args w, (callFunc 78 args).run Try.prog w = .ok (.enter 78 args) w := enters_of Try.func78 (by kernel_rfl) rfl
  clear hin hc hr
  go_enter Try.func82, Try.ntmps82
  go_wp2
  go_loop [5, 8] (fun _ i => ∃ k : Nat, k ≤ t.length ∧ i = .int .i64 k ∧ ∀ s, s < k → roP (st - 1) (tA t s)) (fun _ i => t.length - (intOf i).toNat)
  case atStart => exact ⟨0, by omega, rfl, fun t ht => by omega⟩
  case round =>
    obtain ⟨k, hk, rfl, hall⟩ := hrel
    have HALL := Lib.hid hall
    clear hall
    by_cases hlt : k < t.length
    · obtain ⟨b, off, r, c, rfl, hbl, hc0, hri⟩ := inT_at HIN.out hlt
      have hin : ((k : Nat) : Int) < t.length := by omega
      have HC := Lib.hid (HM.out _ _ (HR.out _ (tA_mem hlt)) hri)
      clear hri
      by_cases hrr : roP (st - 1) (tA t k)
      · have e1 := (roB_iff (st - 1) (tA t k)).2 hrr
        rw [e1] at HC
        have H2 : Hid (∀ s, s < k + 1 → roP (st - 1) (tA t s)) := by
          intro q hq
          by_cases he : q = k
          · subst he; exact hrr
          · exact HALL.out q (by omega)
        clear hrr e1
        generalize (tA t k).length = m at *
        go_wp2_with fail
        refine HC.out.mono ?_
        rintro e w3 ⟨rfl, rfl⟩
        go_wp2
        go_round
        case rel => exact ⟨k + 1, by omega, by go_num, H2.out⟩
        case measure => first | (simp [intOf]; done) | (simp [intOf]; omega)
      · have e1 : roB (st - 1) (tA t k) = false := by
          cases h : roB (st - 1) (tA t k)
          · rfl
          · exact absurd ((roB_iff _ _).1 h) hrr
        rw [e1] at HC
        have H2 := Lib.hid (nxOk_f hlt hrr)
        clear hrr e1
        generalize (tA t k).length = m at *
        go_wp2_with fail
        refine HC.out.mono ?_
        rintro e w3 ⟨rfl, rfl⟩
        go_wp2
        go_ret
        exact ⟨⟨_, rfl, by rw [H2.out]; simp⟩, rfl⟩
    · have ek : k = t.length := by omega
      subst ek
      have HF := Lib.hid (nxOk_t (m := st - 1) HALL.out)
      have hk' : ¬ (t.length : Int) < t.length := by omega
      go_wp2
      go_ret
      exact ⟨⟨_, rfl, by rw [HF.out]; simp⟩, rfl⟩
theorem sl_containsT (bs : Nat) (st : Int) (v : Value) (t : Tb) (w : World) (h1 : 1 ≤ st) (h2 : st ≤ 24) (hx : t.length ≤ 1048576) (hr : ∀ r ∈ t, r.length ≤ 1048576) (hin : InT w v t) (hc : w.cell? ⟨bs, 0, none⟩ = some (.int .i64 st)) :
    Calls Try.prog 77 #[v, .func (.func 78) #[] #[.pointer (some ⟨bs, 0, none⟩)]] w fun e w' => e = .returned (.bool (!(nxOk (st - 1) t))) ∧ w = w' := by
  have H := Lib.hid (sl_indexT bs st v t w h1 h2 hx hr hin hc)
  clear hin hc hr
  generalize nxOk (st - 1) t = al at *
  go_enter Try.func77, Try.ntmps77
  go_wp2_with fail
  refine H.out.mono ?_
  rintro e w3 ⟨⟨r, rfl, hr⟩, rfl⟩
  have HRR := Lib.hid hr
  clear hr
  go_wp2
  go_ret
  exact ⟨ret_bool HRR.out, rfl⟩
/-- states, a start and a table are those of an automaton -/
def maOk (st sa : Int) (t : Tb) : Bool := decide (1 ≤ st ∧ st ≤ 24) && decide (0 ≤ sa ∧ sa ≤ st - 1) && (nxOk (st - 1) t && decide ((t.length : Int) = st))
theorem i_isMachine (st sa : Int) (v : Value) (t : Tb) (w : World) (hx : t.length ≤ 1048576) (hr : ∀ r ∈ t, r.length ≤ 1048576) (hin : InT w v t) :
    Calls Try.prog 74 #[.int .i64 st, .int .i64 sa, v] w fun e w' => e = .returned (.bool (maOk st sa t)) ∧ Below w.heap.size w w' := by
  obtain ⟨a, cap, rfl⟩ := inT_sl hin
  have hbx := (Below.refl w.heap.size w).alloc (Nat.le_refl _) (.cells #[.int .i64 st] 2)
  have hmf : ∀ (fn : Fn) (first cap : Array Value) (w : World), (Instr.makeFunc fn first cap).run Try.prog w = .ok (.func fn first cap) w := fun _ _ _ _ => rfl
  have HBX := Lib.hid hbx
  by_cases hst : 1 ≤ st ∧ st ≤ 24
  · have HW1 := Lib.hid (fun w => i_within_r st 1 24 true (in_t hst) w)
    by_cases hsa : 0 ≤ sa ∧ sa ≤ st - 1
    · have HW2 := Lib.hid (fun w => i_within_r sa 0 (st - 1) true (in_t hsa) w)
      by_cases hl : (t.length : Int) = st
      · have HC := Lib.hid (sl_containsT w.heap.size st (.slice a t.length cap) t _ hst.1 hst.2 hx hr (inT_below hin hbx) (box_cell w (.int .i64 st) 2))
        have hm : maOk st sa t = nxOk (st - 1) t := by simp [maOk, hst, hsa, hl]
        have hlb : ((t.length : Int) == st) = true := by simpa using hl
        obtain ⟨hst1, hst2⟩ := hst
        rw [hm]
        clear hin hr hbx hm hl hsa
        generalize nxOk (st - 1) t = al at *
        go_enter Try.func74, Try.ntmps74
        go_wp2_with fail
        refine (HW1.out _).mono ?_
        rintro e w3 ⟨rfl, rfl⟩
        go_wp2_with fail
        refine (HW2.out _).mono ?_
        rintro e w3 ⟨rfl, rfl⟩
        go_wp2_with fail
        refine HC.out.mono ?_
        rintro e w3 ⟨rfl, rfl⟩
        go_wp2
        go_ret
        exact ⟨by simp, HBX.out⟩
      · have hm : maOk st sa t = false := by simp [maOk, hl]
        have hlb : ((t.length : Int) == st) = false := by simpa using hl
        obtain ⟨hst1, hst2⟩ := hst
        rw [hm]
        clear hin hr hbx hm hl hsa
        go_enter Try.func74, Try.ntmps74
        go_wp2_with fail
        refine (HW1.out _).mono ?_
        rintro e w3 ⟨rfl, rfl⟩
        go_wp2_with fail
        refine (HW2.out _).mono ?_
        rintro e w3 ⟨rfl, rfl⟩
        go_wp2
        go_ret
        exact ⟨rfl, HBX.out⟩
    · have HW2 := Lib.hid (fun w => i_within_r sa 0 (st - 1) false (in_f hsa) w)
      have hm : maOk st sa t = false := by simp only [maOk, hsa, decide_false, Bool.and_false, Bool.false_and]
      obtain ⟨hst1, hst2⟩ := hst
      rw [hm]
      clear hin hr hbx hm hsa
      go_enter Try.func74, Try.ntmps74
      go_wp2_with fail
      refine (HW1.out _).mono ?_
      rintro e w3 ⟨rfl, rfl⟩
      go_wp2_with fail
      refine (HW2.out _).mono ?_
      rintro e w3 ⟨rfl, rfl⟩
      go_wp2
      go_ret
      exact ⟨rfl, HBX.out⟩
  · have HW1 := Lib.hid (fun w => i_within_r st 1 24 false (in_f hst) w)
    have hm : maOk st sa t = false := by simp only [maOk, hst, decide_false, Bool.false_and]
    rw [hm]
    clear hin hr hbx hm hst
    go_enter Try.func74, Try.ntmps74
    go_wp2_with fail
    refine (HW1.out _).mono ?_
    rintro e w3 ⟨rfl, rfl⟩
    go_wp2
    go_ret
    exact ⟨rfl, HBX.out⟩
theorem auOk_split (a : Au) : auOk a = (riOk (wrap64 (a.st - 1)) a.fi && maOk a.st a.sa a.nx) := by
  by_cases hst : 1 ≤ a.st ∧ a.st ≤ 24
  · have hw : wrap64 (a.st - 1) = a.st - 1 := IntWalk.wrap64_in _ (by omega)
    rw [hw]
    unfold auOk maOk
    cases decide (1 ≤ a.st ∧ a.st ≤ 24) <;> cases decide (0 ≤ a.sa ∧ a.sa ≤ a.st - 1) <;> cases riOk (a.st - 1) a.fi <;> simp
  · rw [auOk_st hst]
    have : maOk a.st a.sa a.nx = false := by simp only [maOk, hst, decide_false, Bool.false_and]
    rw [this, Bool.and_false]
theorem i_ValidAuto (uF uT : Value) (a : Au) (w : World) (hs : auSm a) (h1 : InI w uF a.fi) (h2 : InT w uT a.nx) :
    Calls Try.prog 69 #[.agg #[.int .i64 a.st, .int .i64 a.sa, uF, uT]] w fun e w' => e = .returned (.bool (auOk a)) ∧ Below w.heap.size w w' := by
  obtain ⟨a1, cap, rfl⟩ := inI_sl h1
  have hbx := (Below.refl w.heap.size w).alloc (Nat.le_refl _) (.cells #[.int .i64 a.st, .int .i64 a.sa, .slice a1 a.fi.length cap, uT] 43)
  have HIN := Lib.hid (inI_below h1 hbx)
  have HM := Lib.hid (i_isMachine a.st a.sa uT a.nx _ hs.2.1 hs.2.2 (inT_below h2 hbx))
  have HBX := Lib.hid hbx
  have HS := Lib.hid (auOk_split a)
  have hx := hs.1
  obtain ⟨m, hm⟩ : ∃ m, wrap64 (a.st - 1) = m := ⟨_, rfl⟩
  rw [hm] at HS
  have hm2 : IntKind.i64.wrap (a.st - 1) = m := by rw [IntWalk.i64_left]; exact hm
  have c0 : (w.alloc (.cells #[.int .i64 a.st, .int .i64 a.sa, .slice a1 a.fi.length cap, uT] 43)).cell? ⟨w.heap.size, 2, none⟩ = some (.slice a1 a.fi.length cap) := by simp [go_sem]
  clear h1 h2 hs hbx c0
  generalize auOk a = r at *
  generalize maOk a.st a.sa a.nx = mo at *
  generalize a.fi = xs at *
  generalize a.st = st at *
  generalize a.sa = sa at *
  go_enter Try.func69, Try.ntmps69
  go_wp2
  go_loop [3, 4, 8] (fun _ _ i => ∃ k : Nat, k ≤ xs.length ∧ i = .int .i64 k ∧ ∀ t, t < k → riP m xs t) (fun _ _ i => xs.length - (intOf i).toNat)
  case atStart => exact ⟨0, by omega, rfl, fun t ht => by omega⟩
  case round =>
    obtain ⟨k, hk, rfl, hall⟩ := hrel
    have HALL := Lib.hid hall
    clear hall
    by_cases hlt : k < xs.length
    · obtain ⟨g, off, rfl, hg, hx1⟩ := inI_at HIN.out hlt
      have hin : ((k : Nat) : Int) < xs.length := by omega
      have HF := Lib.hid (fun h => riOk_f (m := m) hlt h)
      have HT : Hid (riP m xs k → ∀ t, t < k + 1 → riP m xs t) := by
        intro h t ht
        by_cases he : t = k
        · subst he; exact h
        · exact HALL.out t (by omega)
      have HP : Hid (riP m xs k ↔ (0 ≤ xs.getD k 0 ∧ xs.getD k 0 ≤ m) ∧ (0 < k → xs.getD (k - 1) 0 < xs.getD k 0)) := Iff.rfl
      by_cases hr : 0 ≤ xs.getD k 0 ∧ xs.getD k 0 ≤ m
      · have HW := Lib.hid (fun w => i_within_r (xs.getD k 0) 0 m true (in_t hr) w)
        by_cases hk0 : 0 < k
        · obtain ⟨j, hj⟩ : ∃ j, k = j + 1 := ⟨k - 1, by omega⟩
          have hx2 : (w.alloc (.cells #[.int .i64 st, .int .i64 sa, .slice (some ⟨g, off, none⟩) xs.length cap, uT] 43)).cell? ⟨g, off + j, none⟩ = some (.int .i64 (xs.getD j 0)) := by
            obtain ⟨g', off', e, _, h⟩ := inI_at HIN.out (show j < xs.length by omega)
            injection e with e; injection e with e1 e2
            subst e1 e2; exact h
          have hij : (k : Int) - 1 = (j : Int) := by omega
          have hjI : (j : Int) < xs.length := by omega
          have hkI : (0 : Int) < k := by omega
          have HP2 : Hid (riP m xs k ↔ xs.getD j 0 < xs.getD k 0) := by
            show _ ↔ _
            rw [HP.out, show k - 1 = j by omega]
            exact ⟨fun h => h.2 hk0, fun h => ⟨hr, fun _ => h⟩⟩
          clear hj HP hr
          generalize xs.getD k 0 = x at *
          generalize xs.getD j 0 = y at *
          by_cases hc : y < x
          · have H2 := Lib.hid (HT.out (HP2.out.2 hc))
            have hc2 : ¬ x ≤ y := by omega
            go_wp2_with fail
            refine (HW.out _).mono ?_
            rintro e w3 ⟨rfl, rfl⟩
            go_wp2
            go_round
            case rel => exact ⟨k + 1, by omega, by go_num, H2.out⟩
            case measure => first | (simp [intOf]; done) | (simp [intOf]; omega)
          · have H2 := Lib.hid (HF.out (fun h => hc (HP2.out.1 h)))
            have hc2 : x ≤ y := by omega
            go_wp2_with fail
            refine (HW.out _).mono ?_
            rintro e w3 ⟨rfl, rfl⟩
            go_wp2
            go_ret
            exact ⟨ret_bool (by rw [HS.out, H2.out]; rfl), HBX.out⟩
        · have H2 := Lib.hid (HT.out (HP.out.2 ⟨hr, fun h => absurd h hk0⟩))
          have hkI : ¬ (0 : Int) < k := by omega
          clear HP hr HF
          generalize xs.getD k 0 = x at *
          go_wp2_with fail
          refine (HW.out _).mono ?_
          rintro e w3 ⟨rfl, rfl⟩
          go_wp2
          go_round
          case rel => exact ⟨k + 1, by omega, by go_num, H2.out⟩
          case measure => first | (simp [intOf]; done) | (simp [intOf]; omega)
      · have HW := Lib.hid (fun w => i_within_r (xs.getD k 0) 0 m false (in_f hr) w)
        have H2 := Lib.hid (HF.out (fun h => hr h.1))
        clear HP hr HF
        generalize xs.getD k 0 = x at *
        go_wp2_with fail
        refine (HW.out _).mono ?_
        rintro e w3 ⟨rfl, rfl⟩
        go_wp2
        go_ret
        exact ⟨ret_bool (by rw [HS.out, H2.out]; rfl), HBX.out⟩
    · have ek : k = xs.length := by omega
      subst ek
      have HF := Lib.hid (riOk_t (m := m) HALL.out)
      have hk' : ¬ (xs.length : Int) < xs.length := by omega
      go_wp2_with fail
      refine HM.out.mono ?_
      rintro e w3 ⟨rfl, hb3⟩
      have hB := HBX.out.trans (hb3.mono HBX.out.size)
      clear hb3
      go_wp2
      go_ret
      exact ⟨ret_bool (by rw [HS.out, HF.out]; rfl), hB⟩
end Go.Proofs.Ytimfbnjgodbgoaa
