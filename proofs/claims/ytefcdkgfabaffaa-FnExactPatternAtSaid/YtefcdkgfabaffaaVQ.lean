/- FirstVisit, both functions. -/
import Derived.Test.YtefcdkgfabaffaaVN
import Derived.Test.YtefcdkgfabaffaaVP
namespace Go.Proofs.Ytefcdkgfabaffaa
open Go.ChangeShapes Go.WideShapes Go.RowKit
set_option linter.unusedVariables false
set_option linter.unusedSimpArgs false
set_option maxHeartbeats 1000000
set_option maxRecDepth 100000
theorem tm_one {c : List Int} {s : Nat} (h : 0 ≤ c.getD s 0 ∧ c.getD s 0 ≤ 1000000000000000) : tmS c [(s : Int)] 1 = c.getD s 0 := by
  have e : tmS c [(s : Int)] 1 = wrap64 (0 + c.getD s 0) := by
    show wrap64 (0 + c.getD ([(s : Int)].getD 0 0).toNat 0) = _
    simp
  rw [e, IntWalk.wrap64_in _ (by omega)]
  omega
/-- how often a state is met behind the first letters, as the program counts -/
def fvF (a : Au) (l : List Ru) (t : Nat) (j : Int) : Int := tmS (viV a l j) [(t : Int)] 1
theorem fvF_eq {a : Au} {l : List Ru} (ha : auOk a = true) (hok : gOk l = true) {t : Nat} (ht : t < a.nx.length) (j : Int) : fvF a l t j = cwW a.nx t a.sa.toNat ((wd l).take j.toNat) := by
  rw [fvF, tm_one (viV_bd ha hok j ht), viV_law ha hok ht]
theorem lv_of_ls {nx : Tb} {t s : Nat} {w : List UInt8} {f : Int → Int} {N c r : Int} (hN : (w.length : Int) = N) (hf : ∀ j, 0 ≤ j → j ≤ N → f j = cwW nx t s (w.take j.toNat)) (h : lsP f N c r) (hc : c ≤ f N) : lvP nx t s w c r := by
  rcases h with ⟨h1, -⟩ | ⟨-, h2, h3, h4, h5⟩
  · omega
  · refine ⟨h2, by omega, by rw [← hf r h2 h3]; exact h4, fun j hj => ?_⟩
    have := h5 j (by omega) hj
    rw [hf j (by omega) (by omega)] at this
    simpa using this
def fvR (a : Au) (l : List Ru) (t : Nat) : Int := if l.length = 0 then -1 else (tA (etT (fsE l (gSm a.nx l) t) a.nx.length l.length) (l.length - 1)).getD a.sa.toNat 0
theorem fvR_law {a : Au} {l : List Ru} (ha : auOk a = true) (hok : gOk l = true) {t : Nat} (ht : t < a.nx.length) : fsP a.nx t a.sa.toNat (wd l) (fvR a l t) := by
  obtain ⟨f1, f2, f3, f4, f5⟩ := auOk_facts ha
  have hn : nxP a.nx := by intro s hs; rw [f4]; exact f5 s hs
  unfold fvR
  by_cases h0 : l.length = 0
  · rw [if_pos h0]
    left
    refine ⟨rfl, ?_⟩
    have : wd l = [] := by
      have := wd_len hok
      rw [lastI_nil (by rw [gLn_len3 hok]; exact h0)] at this
      exact List.eq_nil_of_length_eq_zero (by omega)
    rw [this, cwW]
  · rw [if_neg h0]
    exact fs_law hn hok l.length (l.length - 1) a.sa.toNat (by omega) (Nat.le_refl _) (by omega)
/-- the program's answer is the reference's -/
theorem fv_ans {a : Au} {l : List Ru} (ha : auOk a = true) (hok : gOk l = true) {t : Nat} (ht : t < a.nx.length) {r : Int} (h : lsP (fvF a l t) (lastI (gLn l)) 1 r) :
    (fvR a l t < 0 ∧ decide (1 ≤ fvF a l t (lastI (gLn l))) = false) ∨ (fvR a l t = r ∧ 0 ≤ r ∧ decide (1 ≤ fvF a l t (lastI (gLn l))) = true) := by
  have hN := wd_len hok
  have hf : ∀ j, fvF a l t j = cwW a.nx t a.sa.toNat ((wd l).take j.toNat) := fun j => fvF_eq ha hok ht j
  have hfN : fvF a l t (lastI (gLn l)) = cwW a.nx t a.sa.toNat (wd l) := by
    rw [hf, show (lastI (gLn l)).toNat = (wd l).length by omega, List.take_length]
  have hR := fvR_law ha hok ht
  generalize fvR a l t = R at *
  by_cases hc : 1 ≤ fvF a l t (lastI (gLn l))
  · right
    have hl := lv_of_ls hN (fun j _ _ => hf j) h hc
    rcases hR with ⟨-, e⟩ | ⟨-, e⟩
    · omega
    · exact ⟨lvP_uniq e hl, hl.1, decide_eq_true hc⟩
  · left
    rcases hR with ⟨e, -⟩ | ⟨e, -⟩
    · exact ⟨by omega, decide_eq_false hc⟩
    · omega
theorem fvF_mono {a : Au} {l : List Ru} (ha : auOk a = true) (hok : gOk l = true) {t : Nat} (ht : t < a.nx.length) : ∀ i j, 0 ≤ i → i ≤ j → j ≤ lastI (gLn l) → fvF a l t i ≤ fvF a l t j := by
  intro i j h0 h1 h2
  rw [fvF_eq ha hok ht, fvF_eq ha hok ht]
  exact cwW_mono _ _ _ _ (by omega)
def fvV (a : Au) (l : List Ru) (s : Int) : Int := if (gOk l && auOk a) = true then (if 0 ≤ s ∧ s ≤ a.st - 1 then (if s = a.sa then 0 else (if fvR a l s.toNat < 0 then 0 else fvR a l s.toNat)) else 0) else 0
def fvC (a : Au) (l : List Ru) (s : Int) : Int := if (gOk l && auOk a) = true then (if 0 ≤ s ∧ s ≤ a.st - 1 then (if s = a.sa then 0 else (if fvR a l s.toNat < 0 then 6 else 0)) else 2) else 1
theorem rd7_later {B : Nat} {c0 c1 c2 c3 c4 c5 c6 : Value} {w w' : World} (h : rd7 B c0 c1 c2 c3 c4 c5 c6 w) (hb : Below w.heap.size w w') : rd7 B c0 c1 c2 c3 c4 c5 c6 w' := rd7_gp (P := fun _ => False) h (Gp.ofBelow hb) (fun h => h)
theorem i_isState (u1 u2 : Value) (a : Au) (s : Int) (r : Bool) (w : World) (h1 : InI w u1 a.fi) (h2 : InT w u2 a.nx) (hst : 1 ≤ a.st ∧ a.st ≤ 24) (hr : (decide (0 ≤ s) && decide (s ≤ a.st - 1)) = r) :
    Calls Try.prog 114 #[.agg #[.int .i64 a.st, .int .i64 a.sa, u1, u2], .int .i64 s] w fun e w' => e = .returned (.bool r) ∧ Below w.heap.size w w' := by
  obtain ⟨a1, k1, rfl⟩ := inI_sl h1
  obtain ⟨a2, k2, rfl⟩ := inT_sl h2
  obtain ⟨hs1, hs2⟩ := hst
  have HW := Lib.hid (fun w => i_within_r s 0 (a.st - 1) r hr w)
  clear h1 h2 hr
  go_enter Try.func114, Try.ntmps114
  go_wp2_with fail
  refine (HW.out _).mono ?_
  rintro e w2 ⟨rfl, rfl⟩
  go_wp2
  go_ret
  exact ⟨rfl, (Below.refl _ _).alloc (Nat.le_refl _) _⟩
theorem i_fv1 {u1 u2 vg vl vm : Value} {a : Au} {l : List Ru} (t bx bs : Nat) (j : Int) (w : World) (h : InRd w u1 u2 vg vl vm a l) (hok : gOk l = true) (ha : auOk a = true) (ht : t < a.nx.length)
    (hc : rd7 bx (.int .i64 a.st) (.int .i64 a.sa) u1 u2 vg vl vm w) (hs : w.cell? ⟨bs, 0, none⟩ = some (.int .i64 (t : Int))) :
    Calls Try.prog 115 #[.int .i64 j, .pointer (some ⟨bx, 0, none⟩), .pointer (some ⟨bs, 0, none⟩)] w fun e w' => e = .returned (.int .i64 (fvF a l t j)) ∧ Below w.heap.size w w' := by
  obtain ⟨c0, c1, c2, c3, c4, c5, c6⟩ := hc
  have hb := (Below.refl w.heap.size w).alloc (Nat.le_refl _) (.cells #[.int .i64 (t : Int)] 2)
  have hx : InI (w.alloc (.cells #[.int .i64 (t : Int)] 2)) (.slice (some ⟨w.heap.size, 0, none⟩) 1 1) [(t : Int)] := inI_own (own_one w (.int .i64 (t : Int)) 2)
  have HT := Lib.hid (rd_times (inRd_below h hb) hok ha hx (by simp) (fun k hk => by simp at hk; subst hk; simp; omega) j)
  have HB := Lib.hid hb
  obtain ⟨a1, k1, rfl⟩ := inI_sl h.fi
  obtain ⟨a2, k2, rfl⟩ := inT_sl h.nx
  obtain ⟨ag, kg, rfl⟩ := inRu_sl h.gr
  obtain ⟨B0, hl⟩ := h.ln
  obtain ⟨al, kl, rfl, -, -⟩ := owns_sl3 hl
  obtain ⟨am, km, rfl⟩ := inT_sl h.mp
  have HFV : Hid (tmS (viV a l j) [(t : Int)] [(t : Int)].length = fvF a l t j) := rfl
  rw [HFV.out] at HT
  clear h hok ha hb hl hx ht
  generalize fvF a l t j = r at *
  go_enter Try.func115, Try.ntmps115
  go_wp2_with fail
  refine HT.out.mono ?_
  rintro e w2 ⟨rfl, hb2⟩
  have hb3 := HB.out.trans (hb2.mono HB.out.size)
  clear hb2
  go_wp2
  go_ret
  exact ⟨rfl, hb3⟩
theorem i_FirstVisit (u1 u2 vg : Value) (a : Au) (l : List Ru) (s : Int) (w : World) (hs : auSm a) (hn : l.length ≤ 1048576) (hsz : ∀ r ∈ l, r.1.size ≤ 1048576) (h1 : InI w u1 a.fi) (h2 : InT w u2 a.nx) (hg : InRu w vg l) (hrg : (Lit.int .i64 s).wf = true) :
    Calls Try.prog 55 #[.agg #[.int .i64 a.st, .int .i64 a.sa, u1, u2], .agg #[vg], .int .i64 s] w fun e w' => e = .returned (.tuple #[.int .i64 (fvV a l s), .int .i64 (fvC a l s)]) ∧ Below w.heap.size w w' := by
  obtain ⟨a1, k1, rfl⟩ := inI_sl h1
  obtain ⟨a2, k2, rfl⟩ := inT_sl h2
  obtain ⟨ag, kg, rfl⟩ := inRu_sl hg
  have hbx := (((Below.refl w.heap.size w).alloc (Nat.le_refl _) (.cells #[.int .i64 a.st, .int .i64 a.sa, .slice a1 a.fi.length k1, .slice a2 a.nx.length k2] 28)).alloc (by simp) (.cells #[.slice ag l.length kg] 59)).alloc (by first | (simp; done) | (simp; omega)) (.cells #[.int .i64 s] 2)
  have HBX : Hid (∀ w', Below ((((w.alloc (.cells #[.int .i64 a.st, .int .i64 a.sa, .slice a1 a.fi.length k1, .slice a2 a.nx.length k2] 28)).alloc (.cells #[.slice ag l.length kg] 59)).alloc (.cells #[.int .i64 s] 2))).heap.size ((((w.alloc (.cells #[.int .i64 a.st, .int .i64 a.sa, .slice a1 a.fi.length k1, .slice a2 a.nx.length k2] 28)).alloc (.cells #[.slice ag l.length kg] 59)).alloc (.cells #[.int .i64 s] 2))) w' → Below w.heap.size w w') := fun w' h => below_box (below_box (below_box h))
  have HI1 := Lib.hid (inI_below h1 hbx)
  have HI2 := Lib.hid (inT_below h2 hbx)
  have HIG := Lib.hid (inRu_below hg hbx)
  cases h : (gOk l && auOk a)
  · have e1 : fvC a l s = 1 := by rw [fvC, h]; simp
    have e2 : fvV a l s = 0 := by rw [fvV, h]; simp
    have HN := Lib.hid (i_newRide_f _ _ _ a l _ hs hn hsz HI1.out HI2.out HIG.out h)
    rw [e1, e2]
    clear e1 e2 h1 h2 hg hs hsz hbx h
    go_enter Try.func55, Try.ntmps55
    go_wp2_with fail
    refine (HN.out).mono ?_
    rintro e w2 ⟨rfl, hb2⟩
    have BF := HBX.out _ hb2
    clear hb2 HN
    go_wp2
    go_ret2
    exact ⟨rfl, by first | exact BF.alloc BF.size _ | exact BF | exact ((BF.alloc BF.size _).setCell (by simp; exact BF.size) _)⟩
  · have HN := Lib.hid (i_newRide _ _ _ a l _ hs hn hsz HI1.out HI2.out HIG.out h)
    have h' := h
    rw [Bool.and_eq_true] at h
    have HOK := Lib.hid h.1
    have HAO := Lib.hid h.2
    obtain ⟨p1, p2, p3, p4, p5⟩ := auOk_facts h.2
    have HST := Lib.hid p1
    have HP4 := Lib.hid p4
    have hbxw := hbx.size
    clear h1 h2 hg hs hsz hbx h p1 p2 p3 p4 p5
    by_cases hin : 0 ≤ s ∧ s ≤ a.st - 1
    · have HIS := Lib.hid (fun w i1 i2 => i_isState (.slice a1 a.fi.length k1) (.slice a2 a.nx.length k2) a s true w i1 i2 HST.out (by simp; exact hin))
      by_cases hse : s = a.sa
      · have e1 : fvC a l s = 0 := by rw [fvC, h', if_pos rfl, if_pos hin, if_pos hse]
        have e2 : fvV a l s = 0 := by rw [fvV, h', if_pos rfl, if_pos hin, if_pos hse]
        have hseb : (s == a.sa) = true := by rw [beq_iff_eq]; exact hse
        rw [e1, e2]
        have HSE := Lib.hid hseb
        clear e1 e2 h' hin hse hseb
        go_enter Try.func55, Try.ntmps55
        go_wp2_with fail
        refine (HN.out).mono ?_
        rintro e w2 ⟨vl, vm, rfl, hol, hom, hb2⟩
        obtain ⟨al, kl, rfl, -, -⟩ := owns_sl3 hol
        obtain ⟨am, km, rfl⟩ := inT_sl (ownT_in hom)
        have hrd2 : InRd w2 (.slice a1 a.fi.length k1) (.slice a2 a.nx.length k2) (.slice ag l.length kg) (.slice al (gLn l).length kl) (.slice am (gSm a.nx l).length km) a l :=
          ⟨inI_below HI1.out hb2, inT_below HI2.out hb2, inRu_below HIG.out hb2, ⟨_, own_len hol (by rw [gLn_len2 HOK.out])⟩, ownT_in hom⟩
        have HRD2 := Lib.hid hrd2
        have HB2 := Lib.hid (HBX.out _ hb2)
        have HB2' := Lib.hid hb2
        clear hb2 HN hol hom hrd2
        have f0 : w2.cell? ⟨w.heap.size, 0, none⟩ = some (.int .i64 a.st) := by rw [HB2'.out.cell (by first | (simp; done) | (simp; omega))]; simp [go_sem]
        have f1 : w2.cell? ⟨w.heap.size, 1, none⟩ = some (.int .i64 a.sa) := by rw [HB2'.out.cell (by first | (simp; done) | (simp; omega))]; simp [go_sem]
        have f2 : w2.cell? ⟨w.heap.size, 2, none⟩ = some (.slice a1 a.fi.length k1) := by rw [HB2'.out.cell (by first | (simp; done) | (simp; omega))]; simp [go_sem]
        have f3 : w2.cell? ⟨w.heap.size, 3, none⟩ = some (.slice a2 a.nx.length k2) := by rw [HB2'.out.cell (by first | (simp; done) | (simp; omega))]; simp [go_sem]
        have f4 : w2.cell? ⟨w.heap.size + 1 + 1, 0, none⟩ = some (.int .i64 s) := by rw [HB2'.out.cell (by first | (simp; done) | (simp; omega))]; simp [go_sem]
        have q0 : ∀ o, (w2.alloc o).cell? ⟨w.heap.size, 0, none⟩ = _ := fun o => cell_later ((Below.refl _ _).alloc (Nat.le_refl _) o) f0
        have q1 : ∀ o, (w2.alloc o).cell? ⟨w.heap.size, 1, none⟩ = _ := fun o => cell_later ((Below.refl _ _).alloc (Nat.le_refl _) o) f1
        have q2 : ∀ o, (w2.alloc o).cell? ⟨w.heap.size, 2, none⟩ = _ := fun o => cell_later ((Below.refl _ _).alloc (Nat.le_refl _) o) f2
        have q3 : ∀ o, (w2.alloc o).cell? ⟨w.heap.size, 3, none⟩ = _ := fun o => cell_later ((Below.refl _ _).alloc (Nat.le_refl _) o) f3
        have q4 : ∀ o, (w2.alloc o).cell? ⟨w.heap.size + 1 + 1, 0, none⟩ = _ := fun o => cell_later ((Below.refl _ _).alloc (Nat.le_refl _) o) f4
        have Q1 := Lib.hid q1
        have Q4 := Lib.hid q4
        clear f0 f1 f2 f3 f4
        go_wp2_with fail
        refine (HIS.out _ (inI_below HRD2.out.fi ((Below.refl _ _).alloc (Nat.le_refl _) _)) (inT_below HRD2.out.nx ((Below.refl _ _).alloc (Nat.le_refl _) _))).mono ?_
        rintro e w3 ⟨rfl, hb3⟩
        have hk3 := below_box hb3
        have HB3 := Lib.hid (HB2.out.trans (hk3.mono HB2.out.size))
        have s1 := cell_later hb3 (Q1.out _)
        have s4 := cell_later hb3 (Q4.out _)
        clear q0 q1 q2 q3 q4 hb3 hk3 Q1 Q4
        have hseb := HSE.out
        go_wp2
        go_ret2
        exact ⟨rfl, HB3.out⟩
      · obtain ⟨t, ht⟩ := Int.eq_ofNat_of_zero_le hin.1
        have htl : t < a.nx.length := by have := HP4.out; omega
        have e1 : fvC a l s = (if fvR a l t < 0 then 6 else 0) := by rw [fvC, h', if_pos rfl, if_pos hin, if_neg hse, ht, Int.toNat_natCast]
        have e2 : fvV a l s = (if fvR a l t < 0 then 0 else fvR a l t) := by rw [fvV, h', if_pos rfl, if_pos hin, if_neg hse, ht, Int.toNat_natCast]
        have hseb : (s == a.sa) = false := by rw [beq_eq_false_iff_ne]; exact hse
        have HSV : Hid (s = (t : Int)) := ht
        have HE1 := Lib.hid e1
        have HE2 := Lib.hid e2
        have HSE := Lib.hid hseb
        have HTL := Lib.hid htl
        clear e1 e2 h' hin hse hseb ht htl
        go_enter Try.func55, Try.ntmps55
        go_wp2_with fail
        refine (HN.out).mono ?_
        rintro e w2 ⟨vl, vm, rfl, hol, hom, hb2⟩
        obtain ⟨al, kl, rfl, -, -⟩ := owns_sl3 hol
        obtain ⟨am, km, rfl⟩ := inT_sl (ownT_in hom)
        have hrd2 : InRd w2 (.slice a1 a.fi.length k1) (.slice a2 a.nx.length k2) (.slice ag l.length kg) (.slice al (gLn l).length kl) (.slice am (gSm a.nx l).length km) a l :=
          ⟨inI_below HI1.out hb2, inT_below HI2.out hb2, inRu_below HIG.out hb2, ⟨_, own_len hol (by rw [gLn_len2 HOK.out])⟩, ownT_in hom⟩
        have HRD2 := Lib.hid hrd2
        have HB2 := Lib.hid (HBX.out _ hb2)
        have HB2' := Lib.hid hb2
        clear hb2 HN hol hom hrd2
        have f0 : w2.cell? ⟨w.heap.size, 0, none⟩ = some (.int .i64 a.st) := by rw [HB2'.out.cell (by first | (simp; done) | (simp; omega))]; simp [go_sem]
        have f1 : w2.cell? ⟨w.heap.size, 1, none⟩ = some (.int .i64 a.sa) := by rw [HB2'.out.cell (by first | (simp; done) | (simp; omega))]; simp [go_sem]
        have f2 : w2.cell? ⟨w.heap.size, 2, none⟩ = some (.slice a1 a.fi.length k1) := by rw [HB2'.out.cell (by first | (simp; done) | (simp; omega))]; simp [go_sem]
        have f3 : w2.cell? ⟨w.heap.size, 3, none⟩ = some (.slice a2 a.nx.length k2) := by rw [HB2'.out.cell (by first | (simp; done) | (simp; omega))]; simp [go_sem]
        have f4 : w2.cell? ⟨w.heap.size + 1 + 1, 0, none⟩ = some (.int .i64 s) := by rw [HB2'.out.cell (by first | (simp; done) | (simp; omega))]; simp [go_sem]
        have q0 : ∀ o, (w2.alloc o).cell? ⟨w.heap.size, 0, none⟩ = _ := fun o => cell_later ((Below.refl _ _).alloc (Nat.le_refl _) o) f0
        have q1 : ∀ o, (w2.alloc o).cell? ⟨w.heap.size, 1, none⟩ = _ := fun o => cell_later ((Below.refl _ _).alloc (Nat.le_refl _) o) f1
        have q2 : ∀ o, (w2.alloc o).cell? ⟨w.heap.size, 2, none⟩ = _ := fun o => cell_later ((Below.refl _ _).alloc (Nat.le_refl _) o) f2
        have q3 : ∀ o, (w2.alloc o).cell? ⟨w.heap.size, 3, none⟩ = _ := fun o => cell_later ((Below.refl _ _).alloc (Nat.le_refl _) o) f3
        have q4 : ∀ o, (w2.alloc o).cell? ⟨w.heap.size + 1 + 1, 0, none⟩ = _ := fun o => cell_later ((Below.refl _ _).alloc (Nat.le_refl _) o) f4
        have Q1 := Lib.hid q1
        have Q4 := Lib.hid q4
        clear f0 f1 f2 f3 f4
        go_wp2_with fail
        refine (HIS.out _ (inI_below HRD2.out.fi ((Below.refl _ _).alloc (Nat.le_refl _) _)) (inT_below HRD2.out.nx ((Below.refl _ _).alloc (Nat.le_refl _) _))).mono ?_
        rintro e w3 ⟨rfl, hb3⟩
        have hk3 := below_box hb3
        have HB3 := Lib.hid (HB2.out.trans (hk3.mono HB2.out.size))
        have s1 := cell_later hb3 (Q1.out _)
        have s4 := cell_later hb3 (Q4.out _)
        have hbx3 := ride_box w2 (.int .i64 a.st) (.int .i64 a.sa) (.slice a1 a.fi.length k1) (.slice a2 a.nx.length k2) (.slice ag l.length kg) (.slice al (gLn l).length kl) (.slice am (gSm a.nx l).length km)
        obtain ⟨⟨c0, c1, c2, c3, c4, c5, c6⟩, -⟩ := hbx3
        have r0 := cell_later hb3 c0
        have r1 := cell_later hb3 c1
        have r2 := cell_later hb3 c2
        have r3 := cell_later hb3 c3
        have r4 := cell_later hb3 c4
        have r5 := cell_later hb3 c5
        have r6 := cell_later hb3 c6
        have HR7 : Hid (rd7 w2.heap.size (.int .i64 a.st) (.int .i64 a.sa) (.slice a1 a.fi.length k1) (.slice a2 a.nx.length k2) (.slice ag l.length kg) (.slice al (gLn l).length kl) (.slice am (gSm a.nx l).length km) w3) := ⟨r0, r1, r2, r3, r4, r5, r6⟩
        have HS4 := Lib.hid s4
        have HRD3 := Lib.hid (inRd_below HRD2.out hk3)
        have HLE := Lib.hid (rd_least HRD3.out HOK.out 1 (fvF a l t) 115 #[] #[.pointer (some ⟨w2.heap.size, 0, none⟩), .pointer (some ⟨w.heap.size + 1 + 1, 0, none⟩)] (enters_of Try.func115 (by kernel_rfl) rfl) (fvF_mono HAO.out HOK.out HTL.out)
          (fun j w' _ _ hb' => i_fv1 t w2.heap.size (w.heap.size + 1 + 1) j w' (inRd_below HRD3.out hb') HOK.out HAO.out HTL.out (rd7_later HR7.out hb') (by rw [← HSV.out]; exact cell_later hb' HS4.out)))
        have hmf : ∀ (fn : Fn) (first cap : Array Value) (w : World), (Instr.makeFunc fn first cap).run Try.prog w = .ok (.func fn first cap) w := fun _ _ _ _ => rfl
        have HANS := Lib.hid (fun r h => @fv_ans a l HAO.out HOK.out t HTL.out r h)
        clear q0 q1 q2 q3 q4 hb3 hk3 Q1 Q4 c0 c1 c2 c3 c4 c5 c6 HR7 HS4 HRD2 HRD3
        have hseb := HSE.out
        go_wp2_with fail
        refine HLE.out.mono ?_
        rintro e w4 ⟨r, rfl, hls, hb4⟩
        have HB4 := Lib.hid (HB3.out.trans (hb4.mono HB3.out.size))
        rcases HANS.out r hls with ⟨hr, hd⟩ | ⟨hr, hr0, hd⟩
        · rw [hd]
          have HR0 := Lib.hid hr
          clear hls hb4 hd hr HANS HLE
          go_wp2
          go_ret2
          exact ⟨by rw [HE1.out, HE2.out, if_pos HR0.out, if_pos HR0.out]; rfl, HB4.out⟩
        · rw [hd]
          have HR0 := Lib.hid hr
          have HRN : Hid (¬ fvR a l t < 0) := by show ¬ _; omega
          clear hls hb4 hd hr hr0 HANS HLE
          go_wp2
          go_ret2
          exact ⟨by rw [HE1.out, HE2.out, if_neg (show ¬ fvR a l t < 0 by have := HRN.out; omega), if_neg (show ¬ fvR a l t < 0 by have := HRN.out; omega), HR0.out]; rfl, HB4.out⟩
    · have e1 : fvC a l s = 2 := by rw [fvC, h', if_pos rfl, if_neg hin]
      have e2 : fvV a l s = 0 := by rw [fvV, h', if_pos rfl, if_neg hin]
      have HIS := Lib.hid (fun w i1 i2 => i_isState (.slice a1 a.fi.length k1) (.slice a2 a.nx.length k2) a s false w i1 i2 HST.out (by simp; omega))
      rw [e1, e2]
      clear e1 e2 h' hin
      go_enter Try.func55, Try.ntmps55
      go_wp2_with fail
      refine (HN.out).mono ?_
      rintro e w2 ⟨vl, vm, rfl, hol, hom, hb2⟩
      obtain ⟨al, kl, rfl, -, -⟩ := owns_sl3 hol
      obtain ⟨am, km, rfl⟩ := inT_sl (ownT_in hom)
      have hrd2 : InRd w2 (.slice a1 a.fi.length k1) (.slice a2 a.nx.length k2) (.slice ag l.length kg) (.slice al (gLn l).length kl) (.slice am (gSm a.nx l).length km) a l :=
        ⟨inI_below HI1.out hb2, inT_below HI2.out hb2, inRu_below HIG.out hb2, ⟨_, own_len hol (by rw [gLn_len2 HOK.out])⟩, ownT_in hom⟩
      have HRD2 := Lib.hid hrd2
      have HB2 := Lib.hid (HBX.out _ hb2)
      have HB2' := Lib.hid hb2
      clear hb2 HN hol hom hrd2
      have f0 : w2.cell? ⟨w.heap.size, 0, none⟩ = some (.int .i64 a.st) := by rw [HB2'.out.cell (by first | (simp; done) | (simp; omega))]; simp [go_sem]
      have f1 : w2.cell? ⟨w.heap.size, 1, none⟩ = some (.int .i64 a.sa) := by rw [HB2'.out.cell (by first | (simp; done) | (simp; omega))]; simp [go_sem]
      have f2 : w2.cell? ⟨w.heap.size, 2, none⟩ = some (.slice a1 a.fi.length k1) := by rw [HB2'.out.cell (by first | (simp; done) | (simp; omega))]; simp [go_sem]
      have f3 : w2.cell? ⟨w.heap.size, 3, none⟩ = some (.slice a2 a.nx.length k2) := by rw [HB2'.out.cell (by first | (simp; done) | (simp; omega))]; simp [go_sem]
      have f4 : w2.cell? ⟨w.heap.size + 1 + 1, 0, none⟩ = some (.int .i64 s) := by rw [HB2'.out.cell (by first | (simp; done) | (simp; omega))]; simp [go_sem]
      have q0 : ∀ o, (w2.alloc o).cell? ⟨w.heap.size, 0, none⟩ = _ := fun o => cell_later ((Below.refl _ _).alloc (Nat.le_refl _) o) f0
      have q1 : ∀ o, (w2.alloc o).cell? ⟨w.heap.size, 1, none⟩ = _ := fun o => cell_later ((Below.refl _ _).alloc (Nat.le_refl _) o) f1
      have q2 : ∀ o, (w2.alloc o).cell? ⟨w.heap.size, 2, none⟩ = _ := fun o => cell_later ((Below.refl _ _).alloc (Nat.le_refl _) o) f2
      have q3 : ∀ o, (w2.alloc o).cell? ⟨w.heap.size, 3, none⟩ = _ := fun o => cell_later ((Below.refl _ _).alloc (Nat.le_refl _) o) f3
      have q4 : ∀ o, (w2.alloc o).cell? ⟨w.heap.size + 1 + 1, 0, none⟩ = _ := fun o => cell_later ((Below.refl _ _).alloc (Nat.le_refl _) o) f4
      have Q1 := Lib.hid q1
      have Q4 := Lib.hid q4
      clear f0 f1 f2 f3 f4
      go_wp2_with fail
      refine (HIS.out _ (inI_below HRD2.out.fi ((Below.refl _ _).alloc (Nat.le_refl _) _)) (inT_below HRD2.out.nx ((Below.refl _ _).alloc (Nat.le_refl _) _))).mono ?_
      rintro e w3 ⟨rfl, hb3⟩
      have hk3 := below_box hb3
      have HB3 := Lib.hid (HB2.out.trans (hk3.mono HB2.out.size))
      have s1 := cell_later hb3 (Q1.out _)
      have s4 := cell_later hb3 (Q4.out _)
      clear q0 q1 q2 q3 q4 hb3 hk3 Q1 Q4
      go_wp2
      go_ret2
      exact ⟨rfl, HB3.out⟩
theorem s_l04First2 (v vl : Value) (bq oq cap B0 : Nat) (ag : Option Addr) (nx : Tb) (l : List Ru) (t : Nat) (x : Int) (hx : x = (t : Int)) (w : World) (hok : gOk l = true) (hnl : nx.length ≤ 24) (hnx : nxP nx) (hin : InT w v nx) (hlo : w.ownsRow B0 2 1 vl l.length ((gLn l).map (Value.int .i64))) (hcell : w.cell? ⟨bq, oq, none⟩ = some (.slice ag l.length cap)) (hg : InRu w (.slice ag l.length cap) l) :
    Calls Try.prog 113 #[v, .pointer (some ⟨bq, oq, none⟩), vl, .int .i64 x] w fun e w' => ∃ v', e = .returned v' ∧ OwnT w.heap.size w' v' (etT (fsE l (gSm nx l) t) nx.length l.length) ∧ Below w.heap.size w w' := by
  subst hx
  exact s_l04First v vl bq oq cap B0 ag nx l t w hok hnl hnx hin hlo hcell hg
theorem s_FirstVisit (u1 u2 vg : Value) (a : Au) (l : List Ru) (s : Int) (w : World) (hs : auSm a) (hn : l.length ≤ 1048576) (hsz : ∀ r ∈ l, r.1.size ≤ 1048576) (h1 : InI w u1 a.fi) (h2 : InT w u2 a.nx) (hg : InRu w vg l) (hrg : (Lit.int .i64 s).wf = true) :
    Calls Try.prog 54 #[.agg #[.int .i64 a.st, .int .i64 a.sa, u1, u2], .agg #[vg], .int .i64 s] w fun e w' => e = .returned (.tuple #[.int .i64 (fvV a l s), .int .i64 (fvC a l s)]) ∧ Below w.heap.size w w' := by
  have hsz' := hsz
  obtain ⟨a1, k1, rfl⟩ := inI_sl h1
  obtain ⟨a2, k2, rfl⟩ := inT_sl h2
  obtain ⟨ag, kg, rfl⟩ := inRu_sl hg
  have hbx := ((Below.refl w.heap.size w).alloc (Nat.le_refl _) (.cells #[.int .i64 a.st, .int .i64 a.sa, .slice a1 a.fi.length k1, .slice a2 a.nx.length k2] 28)).alloc (by simp) (.cells #[.slice ag l.length kg] 59)
  have HBX : Hid (∀ w', Below (((w.alloc (.cells #[.int .i64 a.st, .int .i64 a.sa, .slice a1 a.fi.length k1, .slice a2 a.nx.length k2] 28)).alloc (.cells #[.slice ag l.length kg] 59))).heap.size (((w.alloc (.cells #[.int .i64 a.st, .int .i64 a.sa, .slice a1 a.fi.length k1, .slice a2 a.nx.length k2] 28)).alloc (.cells #[.slice ag l.length kg] 59))) w' → Below w.heap.size w w') := fun w' h => below_box (below_box h)
  have HI1 := Lib.hid (inI_below h1 hbx)
  have HI2 := Lib.hid (inT_below h2 hbx)
  have HIG := Lib.hid (inRu_below hg hbx)
  have HV := Lib.hid (s_l04Ok w.heap.size 0 _ _ a _ hs (by simp [go_sem]) (by simp [go_sem]) (by simp [go_sem]) (by simp [go_sem]) HI1.out HI2.out)
  have HG := Lib.hid (fun w1 c i => s_l02Ok (w.heap.size + 1) 0 kg ag l w1 hn hsz c i)
  have hqb := fun q => below_drewN (Below.refl (((w.alloc (.cells #[.int .i64 a.st, .int .i64 a.sa, .slice a1 a.fi.length k1, .slice a2 a.nx.length k2] 28)).alloc (.cells #[.slice ag l.length kg] 59))).heap.size (((w.alloc (.cells #[.int .i64 a.st, .int .i64 a.sa, .slice a1 a.fi.length k1, .slice a2 a.nx.length k2] 28)).alloc (.cells #[.slice ag l.length kg] 59)))) q
  have HQB := Lib.hid hqb
  clear h1 h2 hg hs hsz hbx hqb
  cases hao : auOk a
  · have e1 : fvC a l s = 1 := by rw [fvC, hao]; simp
    have e2 : fvV a l s = 0 := by rw [fvV, hao]; simp
    rw [hao] at HV
    rw [e1, e2]
    clear e1 e2 hao HI1 HI2 HIG HG
    go_enter Try.func54, Try.ntmps54
    go_wp2_with fail
    refine (HV.out).mono ?_
    rintro e w2 ⟨rfl, q2, rfl⟩
    have BF := HBX.out _ (HQB.out q2)
    go_wp2
    go_ret2
    exact ⟨rfl, BF⟩
  · rw [hao] at HV
    cases hok : gOk l
    · have e1 : fvC a l s = 1 := by rw [fvC, hok]; simp
      have e2 : fvV a l s = 0 := by rw [fvV, hok]; simp
      rw [hok] at HG
      rw [e1, e2]
      clear e1 e2 hao hok HI1 HI2
      go_enter Try.func54, Try.ntmps54
      go_wp2_with fail
      refine (HV.out).mono ?_
      rintro e w2 ⟨rfl, q2, rfl⟩
      go_wp2_with fail
      refine (HG.out _ (by simp [go_sem]) (inRu_below HIG.out (HQB.out q2))).mono ?_
      rintro e w3 ⟨rfl, hb3⟩
      have BF := HBX.out _ ((HQB.out q2).trans (hb3.mono (HQB.out q2).size))
      clear hb3
      go_wp2
      go_ret2
      exact ⟨rfl, BF⟩
    · obtain ⟨p1, p2, p3, p4, p5⟩ := auOk_facts hao
      have hnx : nxP a.nx := by intro q hq; rw [p4]; exact p5 q hq
      have HOK := Lib.hid hok
      have HAO := Lib.hid hao
      have HST := Lib.hid p1
      have HLN := Lib.hid (fun w1 c i => s_l02Lengths (w.heap.size + 1) 0 kg ag l w1 hn hsz' c i)
      have h' : (gOk l && auOk a) = true := by rw [hok, hao]; rfl
      rw [hok] at HG
      have hst2 := p1.2
      have hst1 := p1.1
      clear hao hok
      by_cases hin : 0 ≤ s ∧ s ≤ a.st - 1
      · have HIN := Lib.hid (fun w => s_l00In_r s 0 (a.st - 1) true (by simp; exact hin) w)
        by_cases hse : s = a.sa
        · have e1 : fvC a l s = 0 := by rw [fvC, h', if_pos rfl, if_pos hin, if_pos hse]
          have e2 : fvV a l s = 0 := by rw [fvV, h', if_pos rfl, if_pos hin, if_pos hse]
          have hseb : (s == a.sa) = true := by rw [beq_iff_eq]; exact hse
          have HSE := Lib.hid hseb
          rw [e1, e2]
          clear e1 e2 h' hin hse hseb p1 p2 p3 p4 p5 hnx
          go_enter Try.func54, Try.ntmps54
          go_wp2_with fail
          refine (HV.out).mono ?_
          rintro e w2 ⟨rfl, q2, rfl⟩
          go_wp2_with fail
          refine (HG.out _ (by simp [go_sem]) (inRu_below HIG.out (HQB.out q2))).mono ?_
          rintro e w3 ⟨rfl, hb3⟩
          have B3 := (HQB.out q2).trans (hb3.mono (HQB.out q2).size)
          have c0 : w3.cell? ⟨w.heap.size, 0, none⟩ = some (.int .i64 a.st) := by rw [B3.cell (by first | (simp; done) | (simp; omega))]; simp [go_sem]
          have c1 : w3.cell? ⟨w.heap.size, 1, none⟩ = some (.int .i64 a.sa) := by rw [B3.cell (by first | (simp; done) | (simp; omega))]; simp [go_sem]
          have c2 : w3.cell? ⟨w.heap.size, 2, none⟩ = some (.slice a1 a.fi.length k1) := by rw [B3.cell (by first | (simp; done) | (simp; omega))]; simp [go_sem]
          have c3 : w3.cell? ⟨w.heap.size, 3, none⟩ = some (.slice a2 a.nx.length k2) := by rw [B3.cell (by first | (simp; done) | (simp; omega))]; simp [go_sem]
          have d0 : w3.cell? ⟨w.heap.size + 1, 0, none⟩ = some (.slice ag l.length kg) := by rw [B3.cell (by first | (simp; done) | (simp; omega))]; simp [go_sem]
          have I1 := Lib.hid (inI_below HI1.out B3)
          have I2 := Lib.hid (inT_below HI2.out B3)
          have IG := Lib.hid (inRu_below HIG.out B3)
          have BB := Lib.hid (HBX.out _ B3)
          have BB' := Lib.hid B3
          clear hb3 B3 HI1 HI2 HIG
          go_wp2_with fail
          refine (HIN.out _).mono ?_
          rintro e w4 ⟨rfl, rfl⟩
          have hseb := HSE.out
          go_wp2
          go_ret2
          exact ⟨rfl, BB.out⟩
        · obtain ⟨t, ht⟩ := Int.eq_ofNat_of_zero_le hin.1
          obtain ⟨sa, hsa⟩ := Int.eq_ofNat_of_zero_le p2.1
          have hsal : sa < a.nx.length := by omega
          have e1 : fvC a l s = (if fvR a l t < 0 then 6 else 0) := by rw [fvC, h', if_pos rfl, if_pos hin, if_neg hse, ht, Int.toNat_natCast]
          have e2 : fvV a l s = (if fvR a l t < 0 then 0 else fvR a l t) := by rw [fvV, h', if_pos rfl, if_pos hin, if_neg hse, ht, Int.toNat_natCast]
          have hseb : (s == a.sa) = false := by rw [beq_eq_false_iff_ne]; exact hse
          have HFS := Lib.hid (fun vl (w1 : World) (B0 : Nat) i o c g => s_l04First2 (.slice a2 a.nx.length k2) vl (w.heap.size + 1) 0 kg B0 ag a.nx l t s ht w1 HOK.out (by omega) hnx i o c g)
          have HSE := Lib.hid hseb
          have HSV : Hid (s = (t : Int)) := ht
          have HSA : Hid (a.sa = (sa : Int)) := hsa
          have HFR : Hid (fvR a l t = if l.length = 0 then -1 else (tA (etT (fsE l (gSm a.nx l) t) a.nx.length l.length) (l.length - 1)).getD sa 0) := by show _ = _; rw [fvR, hsa, Int.toNat_natCast]
          have hsaI : (sa : Int) < a.nx.length := by omega
          have HTL := Lib.hid (etT_len (fsE l (gSm a.nx l) t) a.nx.length l.length)
          have HTR := Lib.hid (fun p (h : p < l.length) => etT_row (fsE l (gSm a.nx l) t) a.nx.length h)
          have hl400 := (gOk_some HOK.out).1
          have HGL := Lib.hid (gLn_len3 HOK.out)
          have HE1 := Lib.hid e1
          have HE2 := Lib.hid e2
          clear e1 e2 h' hin hse hseb ht hsa p1 p2 p3 p4 p5 hnx
          go_enter Try.func54, Try.ntmps54
          go_wp2_with fail
          refine (HV.out).mono ?_
          rintro e w2 ⟨rfl, q2, rfl⟩
          go_wp2_with fail
          refine (HG.out _ (by simp [go_sem]) (inRu_below HIG.out (HQB.out q2))).mono ?_
          rintro e w3 ⟨rfl, hb3⟩
          have B3 := (HQB.out q2).trans (hb3.mono (HQB.out q2).size)
          have c0 : w3.cell? ⟨w.heap.size, 0, none⟩ = some (.int .i64 a.st) := by rw [B3.cell (by first | (simp; done) | (simp; omega))]; simp [go_sem]
          have c1 : w3.cell? ⟨w.heap.size, 1, none⟩ = some (.int .i64 a.sa) := by rw [B3.cell (by first | (simp; done) | (simp; omega))]; simp [go_sem]
          have c2 : w3.cell? ⟨w.heap.size, 2, none⟩ = some (.slice a1 a.fi.length k1) := by rw [B3.cell (by first | (simp; done) | (simp; omega))]; simp [go_sem]
          have c3 : w3.cell? ⟨w.heap.size, 3, none⟩ = some (.slice a2 a.nx.length k2) := by rw [B3.cell (by first | (simp; done) | (simp; omega))]; simp [go_sem]
          have d0 : w3.cell? ⟨w.heap.size + 1, 0, none⟩ = some (.slice ag l.length kg) := by rw [B3.cell (by first | (simp; done) | (simp; omega))]; simp [go_sem]
          have I1 := Lib.hid (inI_below HI1.out B3)
          have I2 := Lib.hid (inT_below HI2.out B3)
          have IG := Lib.hid (inRu_below HIG.out B3)
          have BB := Lib.hid (HBX.out _ B3)
          have BB' := Lib.hid B3
          clear hb3 B3 HI1 HI2 HIG
          go_wp2_with fail
          refine (HIN.out _).mono ?_
          rintro e w4 ⟨rfl, rfl⟩
          have hseb := HSE.out
          go_wp2_with fail
          refine (HLN.out _ d0 IG.out).mono ?_
          rintro e w5 ⟨vl, rfl, hb5, hol⟩
          have hol := hol HOK.out
          rw [HGL.out] at hol
          obtain ⟨al, kl, rfl, -, -⟩ := owns_sl3 hol
          have e3 := cell_later hb5 c3
          have e1 := cell_later hb5 c1
          have ed := cell_later hb5 d0
          have HB5 := Lib.hid (BB.out.trans (hb5.mono BB.out.size))
          have HF2 := Lib.hid (HFS.out _ w5 _ (inT_below I2.out hb5) hol ed (inRu_below IG.out hb5))
          clear hb5 hol c0 c1 c2 c3 d0 HLN HIN HFS
          go_wp2_with fail
          refine HF2.out.mono ?_
          rintro e w6 ⟨vt, rfl, hot, hb6⟩
          have HB6 := Lib.hid (HB5.out.trans (hb6.mono HB5.out.size))
          have g1 := cell_later hb6 e1
          have hit := ownT_in hot
          obtain ⟨at', kt, rfl⟩ := inT_sl hit
          rw [HTL.out] at hit ⊢
          rw [HSA.out] at g1
          by_cases h0 : l.length = 0
          · have hl0 : ((l.length : Int) == 0) = true := by rw [beq_iff_eq]; omega
            have HF3 : Hid (fvR a l t = -1) := by have := HFR.out; rw [if_pos h0] at this; exact this
            clear hit hot hb6 e1 e3 ed HFR HTR HTL
            go_wp2
            go_big_quiet (fail)
            go_wp2
            go_ret2
            exact ⟨by rw [HE1.out, HE2.out, HF3.out]; rfl, by first | exact HB6.out.drew | exact HB6.out | exact below_drewN HB6.out _⟩
          · have hl0 : ((l.length : Int) == 0) = false := by rw [beq_eq_false_iff_ne]; omega
            obtain ⟨k, hk⟩ : ∃ k, l.length - 1 = k := ⟨_, rfl⟩
            have hkl : k < l.length := by omega
            have hkI : (k : Int) < l.length := by omega
            have hki : (l.length : Int) - 1 = (k : Int) := by omega
            have hkw : IntKind.i64.wrap ((l.length : Int) - 1) = (k : Int) := by rw [hki]; exact IntWalk.i64_in _ (by omega)
            have hkw2 : IntKind.i64.wrap (k : Int) = (k : Int) := IntWalk.i64_in _ (by omega)
            have HF3 : Hid (fvR a l t = (tA (etT (fsE l (gSm a.nx l) t) a.nx.length l.length) k).getD sa 0) := by have := HFR.out; rw [if_neg h0, hk] at this; exact this
            have hit2 : InT w6 (.slice at' (etT (fsE l (gSm a.nx l) t) a.nx.length l.length).length kt) (etT (fsE l (gSm a.nx l) t) a.nx.length l.length) := by rw [HTL.out]; exact hit
            obtain ⟨bt, ot, hbt, hltt, hall⟩ := inT_all hit2 (by rw [HTL.out]; omega)
            subst hbt
            obtain ⟨rp, cp, hcp, hip⟩ := hall k (by rw [HTL.out]; exact hkl)
            obtain ⟨gp, fp, rfl, hlt1, hvp⟩ := inI_at hip (show sa < _ by rw [HTR.out k hkl]; exact hsal)
            rw [HTR.out k hkl] at hcp
            clear hit hit2 hot hb6 e1 e3 ed HFR HTR HTL hall hip h0 hk hki
            generalize (tA (etT (fsE l (gSm a.nx l) t) a.nx.length l.length) k).getD sa 0 = R at *
            by_cases hR : R < 0
            · have hRb : decide (R < 0) = true := decide_eq_true hR
              have HRB := Lib.hid hR
              clear hR
              go_wp2
              go_big_quiet (fail)
              go_wp2
              go_ret2
              exact ⟨by rw [HE1.out, HE2.out, HF3.out, if_pos HRB.out, if_pos HRB.out]; rfl, by first | exact below_drewN HB6.out _ | exact HB6.out.drew | exact HB6.out⟩
            · have hRb : decide (R < 0) = false := decide_eq_false hR
              have HRB := Lib.hid hR
              clear hR
              go_wp2
              go_big_quiet (fail)
              go_wp2
              go_big_quiet (fail)
              go_wp2
              go_ret2
              exact ⟨by rw [HE1.out, HE2.out, HF3.out, if_neg (show ¬ R < 0 by have := HRB.out; omega), if_neg (show ¬ R < 0 by have := HRB.out; omega)]; rfl, by first | exact below_drewN (below_drewN HB6.out _) _ | exact below_drewN HB6.out _ | exact HB6.out.drew | exact HB6.out⟩
      · have e1 : fvC a l s = 2 := by rw [fvC, h', if_pos rfl, if_neg hin]
        have e2 : fvV a l s = 0 := by rw [fvV, h', if_pos rfl, if_neg hin]
        have HIN := Lib.hid (fun w => s_l00In_r s 0 (a.st - 1) false (by simp; omega) w)
        rw [e1, e2]
        clear e1 e2 h' hin p1 p2 p3 p4 p5 hnx
        go_enter Try.func54, Try.ntmps54
        go_wp2_with fail
        refine (HV.out).mono ?_
        rintro e w2 ⟨rfl, q2, rfl⟩
        go_wp2_with fail
        refine (HG.out _ (by simp [go_sem]) (inRu_below HIG.out (HQB.out q2))).mono ?_
        rintro e w3 ⟨rfl, hb3⟩
        have B3 := (HQB.out q2).trans (hb3.mono (HQB.out q2).size)
        have c0 : w3.cell? ⟨w.heap.size, 0, none⟩ = some (.int .i64 a.st) := by rw [B3.cell (by first | (simp; done) | (simp; omega))]; simp [go_sem]
        have c1 : w3.cell? ⟨w.heap.size, 1, none⟩ = some (.int .i64 a.sa) := by rw [B3.cell (by first | (simp; done) | (simp; omega))]; simp [go_sem]
        have c2 : w3.cell? ⟨w.heap.size, 2, none⟩ = some (.slice a1 a.fi.length k1) := by rw [B3.cell (by first | (simp; done) | (simp; omega))]; simp [go_sem]
        have c3 : w3.cell? ⟨w.heap.size, 3, none⟩ = some (.slice a2 a.nx.length k2) := by rw [B3.cell (by first | (simp; done) | (simp; omega))]; simp [go_sem]
        have d0 : w3.cell? ⟨w.heap.size + 1, 0, none⟩ = some (.slice ag l.length kg) := by rw [B3.cell (by first | (simp; done) | (simp; omega))]; simp [go_sem]
        have I1 := Lib.hid (inI_below HI1.out B3)
        have I2 := Lib.hid (inT_below HI2.out B3)
        have IG := Lib.hid (inRu_below HIG.out B3)
        have BB := Lib.hid (HBX.out _ B3)
        have BB' := Lib.hid B3
        clear hb3 B3 HI1 HI2 HIG
        go_wp2_with fail
        refine (HIN.out _).mono ?_
        rintro e w4 ⟨rfl, rfl⟩
        go_wp2
        go_ret2
        exact ⟨rfl, BB.out⟩
end Go.Proofs.Ytefcdkgfabaffaa
