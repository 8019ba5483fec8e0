/- CountAccepted, both functions. -/
import Derived.Test.YtefcdkgfabaffaaVL
namespace Go.Proofs.Ytefcdkgfabaffaa
open Go.ChangeShapes Go.WideShapes Go.RowKit
set_option linter.unusedVariables false
set_option linter.unusedSimpArgs false
set_option maxHeartbeats 1000000
set_option maxRecDepth 100000
theorem lastI_bd {l : List Ru} (hok : gOk l = true) : 0 ≤ lastI (gLn l) ∧ lastI (gLn l) ≤ 1000000000000000 := by
  by_cases hz : (gLn l).length = 0
  · rw [lastI_nil hz]; omega
  · rw [lastI_at hz]
    have := (gOk_some hok).2.2.2 _ (getD_mem (show (gLn l).length - 1 < (gLn l).length by omega))
    omega
theorem viV_bd {a : Au} {l : List Ru} (ha : auOk a = true) (hok : gOk l = true) (j : Int) {t : Nat} (ht : t < a.nx.length) : 0 ≤ (viV a l j).getD t 0 ∧ (viV a l j).getD t 0 ≤ 1000000000000000 := by
  rw [viV_law ha hok ht]
  have h1 := cwW_bd a.nx t ((wd l).take j.toNat) a.sa.toNat
  have h2 : ((wd l).take j.toNat).length ≤ (wd l).length := by rw [List.length_take]; omega
  have h3 := wd_len hok
  have h4 := lastI_bd hok
  omega
theorem tmS_bd {c xs : List Int} (hc : ∀ k, k < xs.length → 0 ≤ c.getD (xs.getD k 0).toNat 0 ∧ c.getD (xs.getD k 0).toNat 0 ≤ 1000000000000000) (hx : xs.length ≤ 24) : ∀ k, k ≤ xs.length → 0 ≤ tmS c xs k ∧ tmS c xs k ≤ k * 1000000000000000
  | 0, _ => by simp [tmS]
  | k + 1, h => by
    have h1 := tmS_bd hc hx k (by omega)
    have h2 := hc k (by omega)
    rw [tmS, IntWalk.wrap64_in _ (by omega)]
    omega
/-- how often the reference counts, the start told besides -/
def csS (c xs : List Int) (sa : Int) : Nat → Int
  | 0 => 0
  | k + 1 => if xs.getD k 0 = sa then csS c xs sa k + c.getD (xs.getD k 0).toNat 0 + 1 else csS c xs sa k + c.getD (xs.getD k 0).toNat 0
theorem csS_eq {c xs : List Int} {sa : Int} (hc : ∀ k, k < xs.length → 0 ≤ c.getD (xs.getD k 0).toNat 0 ∧ c.getD (xs.getD k 0).toNat 0 ≤ 1000000000000000) (hx : xs.length ≤ 24) (hi : ∀ i j, i < j → j < xs.length → xs.getD i 0 < xs.getD j 0) :
    ∀ k, k ≤ xs.length → (csS c xs sa k = tmS c xs k ∧ ∀ i, i < k → xs.getD i 0 ≠ sa) ∨ (csS c xs sa k = tmS c xs k + 1 ∧ ∃ i, i < k ∧ xs.getD i 0 = sa)
  | 0, _ => .inl ⟨rfl, fun i h => absurd h (by omega)⟩
  | k + 1, h => by
    have h2 := hc k (by omega)
    have h3 := tmS_bd hc hx k (by omega)
    have h4 : tmS c xs (k + 1) = tmS c xs k + c.getD (xs.getD k 0).toNat 0 := by rw [tmS, IntWalk.wrap64_in _ (by omega)]
    rcases csS_eq hc hx hi k (by omega) with ⟨e, hn⟩ | ⟨e, i, hik, he⟩
    · by_cases hs : xs.getD k 0 = sa
      · right
        refine ⟨?_, k, by omega, hs⟩
        rw [csS, if_pos hs, e, h4]
      · left
        refine ⟨?_, fun i hi' => ?_⟩
        · rw [csS, if_neg hs, e, h4]
        · by_cases hik : i = k
          · rw [hik]; exact hs
          · exact hn i (by omega)
    · have hs : xs.getD k 0 ≠ sa := by
        have := hi i k hik (by omega)
        omega
      right
      refine ⟨?_, i, by omega, he⟩
      rw [csS, if_neg hs, e, h4]
      omega
theorem fi_inc {a : Au} (ha : auOk a = true) : ∀ i j, i < j → j < a.fi.length → a.fi.getD i 0 < a.fi.getD j 0 := by
  obtain ⟨f1, f2, f3, f4, f5⟩ := auOk_facts ha
  unfold riOk at f3
  have f3 := of_decide_eq_true f3
  intro i j hij
  induction j with
  | zero => omega
  | succ j ih =>
    intro hj
    have h1 := (f3 (j + 1) hj).2 (by omega)
    simp only [Nat.add_sub_cancel] at h1
    by_cases he : i = j
    · rw [he]; exact h1
    · have := ih (by omega) (by omega); omega
theorem contains_at (xs : List Int) (x : Int) : (xs.contains x = true) ↔ ∃ i, i < xs.length ∧ xs.getD i 0 = x := by
  rw [List.contains_iff_mem, List.mem_iff_getElem]
  constructor
  · rintro ⟨i, h, e⟩
    exact ⟨i, h, by rw [List.getD, List.getElem?_eq_getElem h]; exact e⟩
  · rintro ⟨i, h, e⟩
    rw [List.getD, List.getElem?_eq_getElem h] at e
    exact ⟨i, h, e⟩
def caN (a : Au) (l : List Ru) : Int := tmS (viV a l (lastI (gLn l))) a.fi a.fi.length
def caX (a : Au) (l : List Ru) : Int := if a.fi.contains a.sa = true then caN a l + 1 else caN a l
def caV (a : Au) (l : List Ru) : Int := if (gOk l && auOk a) = true then caX a l else 0
theorem ca_bd {a : Au} {l : List Ru} (ha : auOk a = true) (hok : gOk l = true) : ∀ k, k ≤ a.fi.length → 0 ≤ tmS (viV a l (lastI (gLn l))) a.fi k ∧ tmS (viV a l (lastI (gLn l))) a.fi k ≤ 24000000000000000 := by
  intro k hk
  have h := tmS_bd (c := viV a l (lastI (gLn l))) (xs := a.fi) (fun k hk => viV_bd ha hok _ (by have := fi_bd ha k hk; omega)) (fi_len ha) k hk
  have := fi_len ha
  omega
theorem ca_ref {a : Au} {l : List Ru} (ha : auOk a = true) (hok : gOk l = true) : csS (viV a l (lastI (gLn l))) a.fi a.sa a.fi.length = caX a l := by
  have h := csS_eq (c := viV a l (lastI (gLn l))) (xs := a.fi) (sa := a.sa) (fun k hk => viV_bd ha hok _ (by have := fi_bd ha k hk; omega)) (fi_len ha) (fi_inc ha) a.fi.length (Nat.le_refl _)
  rcases h with ⟨e, hn⟩ | ⟨e, i, hi, he⟩
  · rw [e, caX, if_neg (by rw [contains_at]; rintro ⟨i, hi, he⟩; exact hn i hi he)]; rfl
  · rw [e, caX, if_pos (by rw [contains_at]; exact ⟨i, hi, he⟩)]; rfl
theorem cs_bd {a : Au} {l : List Ru} (ha : auOk a = true) (hok : gOk l = true) {k : Nat} (hk : k ≤ a.fi.length) : 0 ≤ csS (viV a l (lastI (gLn l))) a.fi a.sa k ∧ csS (viV a l (lastI (gLn l))) a.fi a.sa k ≤ 24000000000000001 := by
  have h := csS_eq (c := viV a l (lastI (gLn l))) (xs := a.fi) (sa := a.sa) (fun k hk => viV_bd ha hok _ (by have := fi_bd ha k hk; omega)) (fi_len ha) (fi_inc ha) k hk
  have h2 := ca_bd ha hok k hk
  rcases h with ⟨e, -⟩ | ⟨e, -⟩ <;> omega
theorem i_CountAccepted (u1 u2 vg : Value) (a : Au) (l : List Ru) (w : World) (hs : auSm a) (hn : l.length ≤ 1048576) (hsz : ∀ r ∈ l, r.1.size ≤ 1048576) (h1 : InI w u1 a.fi) (h2 : InT w u2 a.nx) (hg : InRu w vg l) :
    Calls Try.prog 53 #[.agg #[.int .i64 a.st, .int .i64 a.sa, u1, u2], .agg #[vg]] w fun e w' => e = .returned (.tuple #[.int .i64 (caV a l), .int .i64 (smC a l)]) ∧ Below w.heap.size w w' := by
  obtain ⟨a1, k1, rfl⟩ := inI_sl h1
  obtain ⟨a2, k2, rfl⟩ := inT_sl h2
  obtain ⟨ag, kg, rfl⟩ := inRu_sl hg
  have hbx := ((Below.refl w.heap.size w).alloc (Nat.le_refl _) (.cells #[.int .i64 a.st, .int .i64 a.sa, .slice a1 a.fi.length k1, .slice a2 a.nx.length k2] 28)).alloc (by simp) (.cells #[.slice ag l.length kg] 59)
  have HBX : Hid (∀ w', Below (((w.alloc (.cells #[.int .i64 a.st, .int .i64 a.sa, .slice a1 a.fi.length k1, .slice a2 a.nx.length k2] 28)).alloc (.cells #[.slice ag l.length kg] 59))).heap.size (((w.alloc (.cells #[.int .i64 a.st, .int .i64 a.sa, .slice a1 a.fi.length k1, .slice a2 a.nx.length k2] 28)).alloc (.cells #[.slice ag l.length kg] 59))) w' → Below w.heap.size w w') := fun w' h => below_box (below_box h)
  have HI1 := Lib.hid (inI_below h1 hbx)
  have HI2 := Lib.hid (inT_below h2 hbx)
  have HIG := Lib.hid (inRu_below hg hbx)
  cases h : (gOk l && auOk a)
  · have e1 : smC a l = 1 := by rw [smC, h]; simp
    have e2 : caV a l = 0 := by rw [caV, h]; simp
    have HN := Lib.hid (i_newRide_f _ _ _ a l _ hs hn hsz HI1.out HI2.out HIG.out h)
    rw [e1, e2]
    clear e1 e2 h1 h2 hg hs hsz hbx h
    go_enter Try.func53, Try.ntmps53
    go_wp2_with fail
    refine (HN.out).mono ?_
    rintro e w2 ⟨rfl, hb2⟩
    have BF := HBX.out _ hb2
    clear hb2 HN
    go_wp2
    go_ret2
    exact ⟨rfl, by first | exact BF.alloc BF.size _ | exact BF | exact ((BF.alloc BF.size _).setCell (by simp; exact BF.size) _)⟩
  · have e1 : smC a l = 0 := by rw [smC, h]; simp
    have e2 : caV a l = caX a l := by rw [caV, h]; simp
    have HN := Lib.hid (i_newRide _ _ _ a l _ hs hn hsz HI1.out HI2.out HIG.out h)
    rw [Bool.and_eq_true] at h
    have HOK := Lib.hid h.1
    have HAO := Lib.hid h.2
    have HFL := Lib.hid hs.1
    rw [e1, e2]
    clear e1 e2 h1 h2 hg hs hsz hbx h
    go_enter Try.func53, Try.ntmps53
    go_wp2_with fail
    refine (HN.out).mono ?_
    rintro e w2 ⟨vl, vm, rfl, hol, hom, hb2⟩
    obtain ⟨al, kl, rfl, -, -⟩ := owns_sl3 hol
    obtain ⟨am, km, rfl⟩ := inT_sl (ownT_in hom)
    have hrd2 : InRd w2 (.slice a1 a.fi.length k1) (.slice a2 a.nx.length k2) (.slice ag l.length kg) (.slice al (gLn l).length kl) (.slice am (gSm a.nx l).length km) a l :=
      ⟨inI_below HI1.out hb2, inT_below HI2.out hb2, inRu_below HIG.out hb2, ⟨_, own_len hol (by rw [gLn_len2 HOK.out])⟩, ownT_in hom⟩
    have HRD2 := Lib.hid hrd2
    have HB2 := Lib.hid (HBX.out _ hb2)
    have HB2' := Lib.hid hb2
    clear hb2 HN hol hom hrd2
    have f2 : w2.cell? ⟨w.heap.size, 2, none⟩ = some (.slice a1 a.fi.length k1) := by rw [HB2'.out.cell (by first | (simp; done) | (simp; omega))]; simp [go_sem]
    have f1 : w2.cell? ⟨w.heap.size, 1, none⟩ = some (.int .i64 a.sa) := by rw [HB2'.out.cell (by first | (simp; done) | (simp; omega))]; simp [go_sem]
    have F1 := Lib.hid f1
    have F2 := Lib.hid f2
    clear f1 f2
    go_wp2
    have hbox := ride_box w2 (.int .i64 a.st) (.int .i64 a.sa) (.slice a1 a.fi.length k1) (.slice a2 a.nx.length k2) (.slice ag l.length kg) (.slice al (gLn l).length kl) (.slice am (gSm a.nx l).length km)
    refine gen_world2 (fun w3 => rd7 w2.heap.size (.int .i64 a.st) (.int .i64 a.sa) (.slice a1 a.fi.length k1) (.slice a2 a.nx.length k2) (.slice ag l.length kg) (.slice al (gLn l).length kl) (.slice am (gSm a.nx l).length km) w3 ∧ Below w2.heap.size w2 w3) hbox ?_
    clear hbox
    rintro w3 ⟨⟨c0, c1, c2, c3, c4, c5, c6⟩, hb3⟩
    have HRD3 := Lib.hid (inRd_below HRD2.out hb3)
    have HB3 := Lib.hid (HB2.out.trans (hb3.mono HB2.out.size))
    have HB3' := Lib.hid (HB2'.out.trans (hb3.mono HB2'.out.size))
    have HSS : Hid (∀ w', Below w3.heap.size w3 w' → (w'.cell? ⟨w2.heap.size, 0, none⟩ = some (.int .i64 a.st) ∧ w'.cell? ⟨w2.heap.size, 1, none⟩ = some (.int .i64 a.sa) ∧ w'.cell? ⟨w2.heap.size, 2, none⟩ = some (.slice a1 a.fi.length k1) ∧ w'.cell? ⟨w2.heap.size, 3, none⟩ = some (.slice a2 a.nx.length k2) ∧ w'.cell? ⟨w2.heap.size, 4, none⟩ = some (.slice ag l.length kg) ∧ w'.cell? ⟨w2.heap.size, 5, none⟩ = some (.slice al (gLn l).length kl) ∧ w'.cell? ⟨w2.heap.size, 6, none⟩ = some (.slice am (gSm a.nx l).length km))) := fun w' h => ⟨cell_later h c0, cell_later h c1, cell_later h c2, cell_later h c3, cell_later h c4, cell_later h c5, cell_later h c6⟩
    have hb3k := hb3
    clear hb3
    have g1 : ∀ w', Below w3.heap.size w3 w' → w'.cell? ⟨w.heap.size, 1, none⟩ = some (.int .i64 a.sa) ∧ w'.cell? ⟨w.heap.size, 2, none⟩ = some (.slice a1 a.fi.length k1) := fun w' h => ⟨cell_later h (cell_later hb3k F1.out), cell_later h (cell_later hb3k F2.out)⟩
    have HG1 := Lib.hid g1
    obtain ⟨g1a, g1b⟩ := g1 w3 (Below.refl _ _)
    clear g1 hb3k
    have HSS2 : Hid (∀ w', Below w3.heap.size w3 w' → (w'.cell? ⟨w.heap.size, 2, none⟩ = some (.slice a1 a.fi.length k1) ∧ w'.cell? ⟨w2.heap.size, 0, none⟩ = some (.int .i64 a.st) ∧ w'.cell? ⟨w2.heap.size, 1, none⟩ = some (.int .i64 a.sa) ∧ w'.cell? ⟨w2.heap.size, 2, none⟩ = some (.slice a1 a.fi.length k1) ∧ w'.cell? ⟨w2.heap.size, 3, none⟩ = some (.slice a2 a.nx.length k2) ∧ w'.cell? ⟨w2.heap.size, 4, none⟩ = some (.slice ag l.length kg) ∧ w'.cell? ⟨w2.heap.size, 5, none⟩ = some (.slice al (gLn l).length kl) ∧ w'.cell? ⟨w2.heap.size, 6, none⟩ = some (.slice am (gSm a.nx l).length km))) := fun w' h => ⟨(HG1.out w' h).2, HSS.out w' h⟩
    go_region_held3 (fun w' => w'.cell? ⟨w.heap.size, 2, none⟩ = some (.slice a1 a.fi.length k1) ∧ w'.cell? ⟨w2.heap.size, 0, none⟩ = some (.int .i64 a.st) ∧ w'.cell? ⟨w2.heap.size, 1, none⟩ = some (.int .i64 a.sa) ∧ w'.cell? ⟨w2.heap.size, 2, none⟩ = some (.slice a1 a.fi.length k1) ∧ w'.cell? ⟨w2.heap.size, 3, none⟩ = some (.slice a2 a.nx.length k2) ∧ w'.cell? ⟨w2.heap.size, 4, none⟩ = some (.slice ag l.length kg) ∧ w'.cell? ⟨w2.heap.size, 5, none⟩ = some (.slice al (gLn l).length kl) ∧ w'.cell? ⟨w2.heap.size, 6, none⟩ = some (.slice am (gSm a.nx l).length km)) (exact HSS2.out _ (by (repeat (first | exact Below.refl _ _ | apply Below.drew | (refine bl_tr ?_ hT2) | (refine bl_tr ?_ hT1))); done)) (first | (go_at_call 106; with_reducible refine (rd_length (inRd_below HRD3.out (by (repeat (first | exact Below.refl _ _ | apply Below.drew)); done)) HOK.out).mono ?_; rintro e wA ⟨rfl, hT1⟩) | (go_at_call 111; with_reducible refine (rd_times (inRd_below HRD3.out (by (repeat (first | exact Below.refl _ _ | apply Below.drew | (refine bl_tr ?_ hT1))); done)) HOK.out HAO.out (inI_below HRD3.out.fi (by (repeat (first | exact Below.refl _ _ | apply Below.drew | (refine bl_tr ?_ hT1))); done)) HFL.out (fi_bd HAO.out) _).mono ?_; rintro e wB ⟨rfl, hT2⟩))
    have hbf : Below w3.heap.size w3 wB := by (repeat (first | exact Below.refl _ _ | apply Below.drew | (refine bl_tr ?_ hT2) | (refine bl_tr ?_ hT1))); done
    have HBF := Lib.hid (HB3.out.trans (hbf.mono HB3.out.size))
    obtain ⟨e1, e2⟩ := HG1.out wB hbf
    have HCT := Lib.hid (i_Contains64 (.slice a1 a.fi.length k1) a.fi a.sa wB HFL.out (inI_below HRD3.out.fi hbf))
    have hbd := ca_bd HAO.out HOK.out a.fi.length (Nat.le_refl _)
    have HCX : Hid (caX a l = if a.fi.contains a.sa = true then caN a l + 1 else caN a l) := rfl
    have hcn : tmS (viV a l (lastI (gLn l))) a.fi a.fi.length = caN a l := rfl
    rw [hcn] at hbd ⊢
    generalize caN a l = cn at *
    obtain ⟨hbd1, hbd2⟩ := hbd
    clear hT1 hT2 hbf c0 c1 c2 c3 c4 c5 c6 HSS HSS2 HG1 g1a g1b hcn
    cases hct : a.fi.contains a.sa
    · rw [hct] at HCT HCX
      clear hct
      have hx : caX a l = cn := by have := HCX.out; simpa using this
      have HX := Lib.hid hx
      clear hx HCX
      go_wp2_with fail
      refine HCT.out.mono ?_
      rintro e w5 ⟨rfl, rfl⟩
      go_wp2
      go_ret2
      exact ⟨by rw [HX.out]; rfl, HBF.out⟩
    · rw [hct] at HCT HCX
      clear hct
      have hx : caX a l = cn + 1 := by have := HCX.out; simpa using this
      have HX := Lib.hid hx
      clear hx HCX
      go_wp2_with fail
      refine HCT.out.mono ?_
      rintro e w5 ⟨rfl, rfl⟩
      go_wp2
      go_ret2
      exact ⟨by rw [HX.out]; rfl, HBF.out⟩
theorem s_CountAccepted (u1 u2 vg : Value) (a : Au) (l : List Ru) (w : World) (hs : auSm a) (hn : l.length ≤ 1048576) (hsz : ∀ r ∈ l, r.1.size ≤ 1048576) (h1 : InI w u1 a.fi) (h2 : InT w u2 a.nx) (hg : InRu w vg l) :
    Calls Try.prog 52 #[.agg #[.int .i64 a.st, .int .i64 a.sa, u1, u2], .agg #[vg]] w fun e w' => e = .returned (.tuple #[.int .i64 (caV a l), .int .i64 (smC a l)]) ∧ Below w.heap.size w w' := by
  obtain ⟨a1, k1, rfl⟩ := inI_sl h1
  obtain ⟨a2, k2, rfl⟩ := inT_sl h2
  obtain ⟨ag, kg, rfl⟩ := inRu_sl hg
  have hbx := ((Below.refl w.heap.size w).alloc (Nat.le_refl _) (.cells #[.int .i64 a.st, .int .i64 a.sa, .slice a1 a.fi.length k1, .slice a2 a.nx.length k2] 28)).alloc (by simp) (.cells #[.slice ag l.length kg] 59)
  have HBX : Hid (∀ w', Below (((w.alloc (.cells #[.int .i64 a.st, .int .i64 a.sa, .slice a1 a.fi.length k1, .slice a2 a.nx.length k2] 28)).alloc (.cells #[.slice ag l.length kg] 59))).heap.size (((w.alloc (.cells #[.int .i64 a.st, .int .i64 a.sa, .slice a1 a.fi.length k1, .slice a2 a.nx.length k2] 28)).alloc (.cells #[.slice ag l.length kg] 59))) w' → Below w.heap.size w w') := fun w' h => below_box (below_box h)
  have HI1 := Lib.hid (inI_below h1 hbx)
  have HI2 := Lib.hid (inT_below h2 hbx)
  have HIG := Lib.hid (inRu_below hg hbx)
  have HV := Lib.hid (s_l04Ok w.heap.size 0 _ _ a _ hs (by simp [go_sem]) (by simp [go_sem]) (by simp [go_sem]) (by simp [go_sem]) HI1.out HI2.out)
  have HG := Lib.hid (fun w1 c i => s_l02Ok (w.heap.size + 1) 0 kg ag l w1 hn hsz c i)
  have hqb := fun q => below_drewN (Below.refl (((w.alloc (.cells #[.int .i64 a.st, .int .i64 a.sa, .slice a1 a.fi.length k1, .slice a2 a.nx.length k2] 28)).alloc (.cells #[.slice ag l.length kg] 59))).heap.size (((w.alloc (.cells #[.int .i64 a.st, .int .i64 a.sa, .slice a1 a.fi.length k1, .slice a2 a.nx.length k2] 28)).alloc (.cells #[.slice ag l.length kg] 59)))) q
  have HQB := Lib.hid hqb
  clear h1 h2 hg hs hsz hbx hqb
  cases hao : auOk a
  · have e1 : smC a l = 1 := by rw [smC, hao]; simp
    have e2 : caV a l = 0 := by rw [caV, hao]; simp
    rw [hao] at HV
    rw [e1, e2]
    clear e1 e2 hao HI1 HI2 HIG HG
    go_enter Try.func52, Try.ntmps52
    go_wp2_with fail
    refine (HV.out).mono ?_
    rintro e w2 ⟨rfl, q2, rfl⟩
    have BF := HBX.out _ (HQB.out q2)
    go_wp2
    go_ret2
    exact ⟨rfl, BF⟩
  · rw [hao] at HV
    cases hok : gOk l
    · have e1 : smC a l = 1 := by rw [smC, hok]; simp
      have e2 : caV a l = 0 := by rw [caV, hok]; simp
      rw [hok] at HG
      rw [e1, e2]
      clear e1 e2 hao hok HI1 HI2
      go_enter Try.func52, Try.ntmps52
      go_wp2_with fail
      refine (HV.out).mono ?_
      rintro e w2 ⟨rfl, q2, rfl⟩
      go_wp2_with fail
      refine (HG.out _ (by simp [go_sem]) (inRu_below HIG.out (HQB.out q2))).mono ?_
      rintro e w3 ⟨rfl, hb3⟩
      have BF := HBX.out _ ((HQB.out q2).trans (hb3.mono (HQB.out q2).size))
      clear hb3
      go_wp2
      go_ret2
      exact ⟨rfl, BF⟩
    · have e1 : smC a l = 0 := by rw [smC, hao, hok]; simp
      have e2 : caV a l = caX a l := by rw [caV, hao, hok]; simp
      have HVI := Lib.hid (fun w1 i c g => s_l04Visits (.slice a2 a.nx.length k2) (w.heap.size + 1) 0 kg ag a l w1 hok hao i c g)
      have HCR : Hid (csS (viV a l (lastI (gLn l))) a.fi a.sa a.fi.length = caX a l) := ca_ref hao hok
      have HCB : Hid (∀ k, k ≤ a.fi.length → 0 ≤ csS (viV a l (lastI (gLn l))) a.fi a.sa k ∧ csS (viV a l (lastI (gLn l))) a.fi a.sa k ≤ 24000000000000001) := fun k hk => cs_bd hao hok hk
      have HVB : Hid (∀ t, t < a.nx.length → 0 ≤ (viV a l (lastI (gLn l))).getD t 0 ∧ (viV a l (lastI (gLn l))).getD t 0 ≤ 1000000000000000) := fun t ht => viV_bd hao hok _ ht
      have HST : Hid (∀ k, csS (viV a l (lastI (gLn l))) a.fi a.sa (k + 1) = if a.fi.getD k 0 = a.sa then csS (viV a l (lastI (gLn l))) a.fi a.sa k + (viV a l (lastI (gLn l))).getD (a.fi.getD k 0).toNat 0 + 1 else csS (viV a l (lastI (gLn l))) a.fi a.sa k + (viV a l (lastI (gLn l))).getD (a.fi.getD k 0).toNat 0) := fun k => rfl
      have HFB := Lib.hid (fi_bd hao)
      have HFN := Lib.hid (fi_len hao)
      have hvl : (viV a l (lastI (gLn l))).length = a.nx.length := viV_len a l _
      have hfn := fi_len hao
      rw [hok] at HG
      rw [e1, e2]
      clear e1 e2 hao hok
      go_enter Try.func52, Try.ntmps52
      go_wp2_with fail
      refine (HV.out).mono ?_
      rintro e w2 ⟨rfl, q2, rfl⟩
      go_wp2_with fail
      refine (HG.out _ (by simp [go_sem]) (inRu_below HIG.out (HQB.out q2))).mono ?_
      rintro e w3 ⟨rfl, hb3⟩
      have B3 := (HQB.out q2).trans (hb3.mono (HQB.out q2).size)
      have c0 : w3.cell? ⟨w.heap.size, 0, none⟩ = some (.int .i64 a.st) := by rw [B3.cell (by first | (simp; done) | (simp; omega))]; simp [go_sem]
      have c1 : w3.cell? ⟨w.heap.size, 1, none⟩ = some (.int .i64 a.sa) := by rw [B3.cell (by first | (simp; done) | (simp; omega))]; simp [go_sem]
      have c2 : w3.cell? ⟨w.heap.size, 2, none⟩ = some (.slice a1 a.fi.length k1) := by rw [B3.cell (by first | (simp; done) | (simp; omega))]; simp [go_sem]
      have c3 : w3.cell? ⟨w.heap.size, 3, none⟩ = some (.slice a2 a.nx.length k2) := by rw [B3.cell (by first | (simp; done) | (simp; omega))]; simp [go_sem]
      have d0 : w3.cell? ⟨w.heap.size + 1, 0, none⟩ = some (.slice ag l.length kg) := by rw [B3.cell (by first | (simp; done) | (simp; omega))]; simp [go_sem]
      have I1 := Lib.hid (inI_below HI1.out B3)
      have I2 := Lib.hid (inT_below HI2.out B3)
      have IG := Lib.hid (inRu_below HIG.out B3)
      have BB := Lib.hid (HBX.out _ B3)
      have BB' := Lib.hid B3
      clear hb3 B3 HI1 HI2 HIG
      go_wp2_with fail
      refine (HVI.out _ I2.out d0 IG.out).mono ?_
      rintro e w4 ⟨v', rfl, ho, hb4⟩
      have HBF := Lib.hid (BB.out.trans (hb4.mono BB.out.size))
      obtain ⟨av, kv, rfl, hsome, -⟩ := owns_sl3 ho
      have HO := Lib.hid ho
      have HI := Lib.hid (inI_below I1.out hb4)
      have e1 := cell_later hb4 c1
      have e2 := cell_later hb4 c2
      clear hb4 ho c0 c1 c2 c3 d0 I1 I2 IG BB BB' HVI
      generalize viV a l (lastI (gLn l)) = V at *
      go_wp2
      go_loopw [7, 8] (fun t i wr => Below w4.heap.size w4 wr ∧ ∃ k : Nat, k ≤ a.fi.length ∧ i = .int .i64 k ∧ t = .int .i64 (csS V a.fi a.sa k)) (fun _ i _ => a.fi.length - (intOf i).toNat)
      case atStart => exact ⟨Below.refl _ _, 0, by omega, rfl, rfl⟩
      case round =>
        obtain ⟨hb, k, hk, rfl, rfl⟩ := hrel
        have g1 := cell_later hb e1
        have g2 := cell_later hb e2
        by_cases hlt : k < a.fi.length
        · have hin : (k : Int) < a.fi.length := by omega
          obtain ⟨gx, fx, hgx0, hgx, hvx⟩ := inI_at (inI_below HI.out hb) hlt
          subst hgx0
          obtain ⟨h0, h1⟩ := HFB.out k hlt
          obtain ⟨s, hsx⟩ := Int.eq_ofNat_of_zero_le h0
          have hsl : s < a.nx.length := by omega
          have hsI : (s : Int) < a.nx.length := by omega
          obtain ⟨g, hg⟩ := hsome (by omega)
          subst hg
          have hc := cell_later hb (own_get HO.out hvl hsl)
          obtain ⟨b1, b2⟩ := HCB.out k hk
          obtain ⟨b3, b4⟩ := HVB.out s hsl
          have HS := Lib.hid (HST.out k)
          rw [hsx] at HS hvx
          simp only [Int.toNat_natCast] at HS
          have HB := Lib.hid hb
          clear hsx h0 h1 hb
          generalize csS V a.fi a.sa k = t at *
          generalize V.getD s 0 = x at *
          by_cases hse : (s : Int) = a.sa
          · have hsb : ((s : Int) == a.sa) = true := by rw [beq_iff_eq]; exact hse
            have HS2 : Hid (csS V a.fi a.sa (k + 1) = t + x + 1) := by have := HS.out; rw [if_pos hse] at this; exact this
            clear HS hse
            go_wp2
            go_region
            go_wp2
            go_roundw
            case rel => exact ⟨HB.out.drew, k + 1, by omega, by go_num, by rw [HS2.out]⟩
            case measure => first | (simp [intOf]; done) | (simp [intOf]; omega)
          · have hsb : ((s : Int) == a.sa) = false := by rw [beq_eq_false_iff_ne]; exact hse
            have HS2 : Hid (csS V a.fi a.sa (k + 1) = t + x) := by have := HS.out; rw [if_neg hse] at this; exact this
            clear HS hse
            go_wp2
            go_region
            go_wp2
            go_roundw
            case rel => exact ⟨HB.out.drew, k + 1, by omega, by go_num, by rw [HS2.out]⟩
            case measure => first | (simp [intOf]; done) | (simp [intOf]; omega)
        · have e : k = a.fi.length := by omega
          subst e
          have hnl : ¬ ((a.fi.length : Int) < a.fi.length) := by omega
          have hbf := HBF.out.trans (hb.mono HBF.out.size)
          clear hb hsome
          go_wp2
          go_ret2
          exact ⟨by rw [← HCR.out]; rfl, hbf⟩
end Go.Proofs.Ytefcdkgfabaffaa
