/- A ride of a pattern. -/
import Derived.Test.YtefcdkgfabaffaaVQ
import Derived.Test.YtefcdkgfabaffaaKY
namespace Go.Proofs.Ytefcdkgfabaffaa
open Go.ChangeShapes Go.WideShapes Go.RowKit
set_option linter.unusedVariables false
set_option linter.unusedSimpArgs false
set_option maxHeartbeats 1000000
set_option maxRecDepth 100000
theorem own_get2 {w : World} {base e : Nat} {n : Nat} {v : Value} {xs : List Int} (h : w.ownsRow base e 1 v n (xs.map (Value.int .i64))) (hl : xs.length = n) {k : Nat} (hk : k < n) : ∃ g cap, v = .slice (some ⟨g, 0, none⟩) n cap ∧ w.cell? ⟨g, k, none⟩ = some (.int .i64 (xs.getD k 0)) := by
  obtain ⟨a, cap, rfl, hs, -⟩ := owns_sl3 h
  obtain ⟨g, rfl⟩ := hs (by omega)
  exact ⟨g, cap, rfl, own_get h hl hk⟩
theorem paR_at (p : ByteArray) (s : Nat) : ∀ {n c : Nat}, c < n → (paR p s n).getD c 0 = paE p s c
  | 0, c, h => by omega
  | n + 1, c, h => by
    rw [paR]
    by_cases he : c < n
    · rw [List.getD, List.getElem?_append_left (by rw [paR_len]; exact he)]
      exact paR_at p s he
    · obtain rfl : c = n := by omega
      rw [List.getD, List.getElem?_append_right (by rw [paR_len]; exact Nat.le_refl _)]
      simp [paR_len]
theorem paA_nx (p : ByteArray) : (paA p).nx.length = p.size + 1 := paT_len p (p.size + 1)
theorem paA_ok {p : ByteArray} (h : p.size ≤ 20) : auOk (paA p) = true := by
  have e1 : (paA p).st = (p.size : Int) + 1 := rfl
  have e2 : (paA p).sa = 0 := rfl
  have e3 : (paA p).fi = [(p.size : Int)] := rfl
  have h1 : riOk ((paA p).st - 1) (paA p).fi = true := by
    rw [e1, e3]
    refine riOk_t (fun t ht => ?_)
    have ht : t < 1 := ht
    obtain rfl : t = 0 := by omega
    refine ⟨?_, fun h => absurd h (by omega)⟩
    show 0 ≤ (p.size : Int) ∧ (p.size : Int) ≤ (p.size : Int) + 1 - 1
    omega
  have h2 : nxOk ((paA p).st - 1) (paA p).nx = true := by
    refine nxOk_t (fun s hs => ?_)
    rw [paA_nx] at hs
    have e4 : tA (paA p).nx s = paR p s 4 := paT_row p hs
    rw [e4]
    refine ⟨paR_len p s 4, fun c hc => ?_⟩
    rw [paR_at p s hc, paE, e1]
    have := fitF_le p (paX p s c) (min p.size (s + 1))
    omega
  rw [auOk, h1, h2, paA_nx, e1, e2]
  simp
  omega
theorem paA_sm {p : ByteArray} (h : p.size ≤ 20) : auSm (paA p) := by
  have h1 := paA_ok h
  obtain ⟨f1, f2, f3, f4, f5⟩ := auOk_facts h1
  refine ⟨by show ([(p.size : Int)] : List Int).length ≤ 1048576; simp, by rw [paA_nx]; omega, fun r hr => ?_⟩
  obtain ⟨j, hj, rfl⟩ := List.getElem_of_mem hr
  have := (f5 j hj).1
  rw [tA, List.getD, List.getElem?_eq_getElem hj] at this
  simp only [Option.getD_some] at this
  omega
def skC (p : ByteArray) (l : List Ru) : Int := if gOk l = false then 1 else paC p
theorem skC_ok {p : ByteArray} {l : List Ru} (h : skC p l = 0) : gOk l = true ∧ paC p = 0 := by
  unfold skC at h
  cases hg : gOk l
  · rw [hg] at h; simp at h
  · rw [hg] at h; exact ⟨rfl, by simpa using h⟩
theorem s_l04Asked2 (bq oq cap : Nat) (ag : Option Addr) (p : ByteArray) (l : List Ru) (w : World) (hz : p.size ≤ 1048576) (hn : l.length ≤ 1048576) (hsz : ∀ r ∈ l, r.1.size ≤ 1048576) (hc : w.cell? ⟨bq, oq, none⟩ = some (.slice ag l.length cap)) (hg : InRu w (.slice ag l.length cap) l) :
    Calls Try.prog 74 #[.pointer (some ⟨bq, oq, none⟩), .string p] w fun e w' => e = .returned (.int .i64 (skC p l)) ∧ Below w.heap.size w w' := by
  have HG := Lib.hid (s_l02Ok bq oq cap ag l w hn hsz hc hg)
  have HV := Lib.hid (fun w => s_l01Ok p w (by unfold maxLen; omega))
  clear hc hg hsz
  cases hok : gOk l
  · have e : skC p l = 1 := by simp [skC, hok]
    rw [e]
    rw [hok] at HG
    clear e hok HV
    go_enter Try.func74, Try.ntmps74
    go_wp2_with fail
    refine (HG.out).mono ?_
    rintro e w2 ⟨rfl, hb2⟩
    go_wp2
    go_ret
    exact ⟨rfl, hb2⟩
  · have esk : skC p l = paC p := by simp [skC, hok]
    rw [esk]
    rw [hok] at HG
    clear hok esk
    cases hv : validB p
    · have e : paC p = 1 := by simp [paC, hv]
      rw [e]
      rw [hv] at HV
      clear e hv
      go_enter Try.func74, Try.ntmps74
      go_wp2_with fail
      refine (HG.out).mono ?_
      rintro e w2 ⟨rfl, hb2⟩
      go_wp2_with fail
      refine (HV.out _).mono ?_
      rintro e w3 ⟨rfl, rfl⟩
      go_wp2
      go_ret
      exact ⟨rfl, hb2⟩
    · rw [hv] at HV
      by_cases h0 : p.size = 0
      · have e : paC p = 4 := by simp [paC, hv, h0]
        obtain rfl := size_zero h0
        rw [e]
        clear hv h0 e
        go_enter Try.func74, Try.ntmps74
        go_wp2_with fail
        refine (HG.out).mono ?_
        rintro e w2 ⟨rfl, hb2⟩
        go_wp2_with fail
        refine (HV.out _).mono ?_
        rintro e w3 ⟨rfl, rfl⟩
        go_wp2
        go_ret
        exact ⟨rfl, hb2⟩
      · have hne := neq_empty h0
        have hne2 := not_empty h0
        by_cases h1 : 20 < p.size
        · have e : paC p = 3 := by simp [paC, hv, h0, h1]
          rw [e]
          have hin : (20 : Int) < p.size := by omega
          clear hv h0 e
          go_enter Try.func74, Try.ntmps74
          go_wp2_with fail
          refine (HG.out).mono ?_
          rintro e w2 ⟨rfl, hb2⟩
          go_wp2_with fail
          refine (HV.out _).mono ?_
          rintro e w3 ⟨rfl, rfl⟩
          go_wp2
          go_ret
          exact ⟨rfl, hb2⟩
        · have e : paC p = 0 := by simp [paC, hv, h0, h1]
          rw [e]
          have hin : ¬ (20 : Int) < p.size := by omega
          clear hv h0 e
          go_enter Try.func74, Try.ntmps74
          go_wp2_with fail
          refine (HG.out).mono ?_
          rintro e w2 ⟨rfl, hb2⟩
          go_wp2_with fail
          refine (HV.out _).mono ?_
          rintro e w3 ⟨rfl, rfl⟩
          go_wp2
          go_ret
          exact ⟨rfl, hb2⟩
theorem auR7 {base b : Nat} {w : World} {f v : Value} {vs : List Value} {a : Au} {v0 v1 v2 v3 v4 v5 v6 : Value} (h : AuR base w f v vs a) (hb : b < base) : AuR base (set7 w b v0 v1 v2 v3 v4 v5 v6) f v vs a := by
  unfold set7
  exact auR_set (auR_set (auR_set (auR_set (auR_set (auR_set (auR_set h hb) hb) hb) hb) hb) hb) hb
def skO (base : Nat) (w : World) (u1 u2 vl vm : Value) (p : ByteArray) (l : List Ru) : Prop := w.ownsRow base 2 1 u1 (paA p).fi.length (iv (paA p).fi) ∧ OwnT base w u2 (paA p).nx ∧ w.ownsRow base 2 1 vl l.length ((gLn l).map (Value.int .i64)) ∧ OwnT base w vm (gSm (paA p).nx l)
theorem skO_after {base : Nat} {w w' : World} {u1 u2 vl vm : Value} {p : ByteArray} {l : List Ru} (h : skO base w u1 u2 vl vm p l) (hb : Below w.heap.size w w') : skO base w' u1 u2 vl vm p l := ⟨owns_after h.1 hb, ownT_after h.2.1 hb, owns_after h.2.2.1 hb, ownT_after h.2.2.2 hb⟩
theorem skO7 {base b : Nat} {w : World} {u1 u2 vl vm : Value} {p : ByteArray} {l : List Ru} {v0 v1 v2 v3 v4 v5 v6 : Value} (h : skO base w u1 u2 vl vm p l) (hb : b < base) : skO base (set7 w b v0 v1 v2 v3 v4 v5 v6) u1 u2 vl vm p l := ⟨own7 h.1 hb, ownT7 h.2.1 hb, own7 h.2.2.1 hb, ownT7 h.2.2.2 hb⟩
theorem skO_rd {base : Nat} {w : World} {u1 u2 vg vl vm : Value} {p : ByteArray} {l : List Ru} (h : skO base w u1 u2 vl vm p l) (hg : InRu w vg l) : InRd w u1 u2 vg vl vm (paA p) l := ⟨inI_own h.1, ownT_in h.2.1, hg, ⟨_, h.2.2.1⟩, ownT_in h.2.2.2⟩
theorem share_seek {P : Prop} (F : Nat → World → Option Addr → Nat → Option Addr → Nat → Option Addr → Nat → Option Addr → Nat → Prop) {G : Nat → World → Option Addr → Nat → Option Addr → Nat → Option Addr → Nat → Option Addr → Nat → Prop} (h : (∀ b w i j k m n o q r, F b w i j k m n o q r → G b w i j k m n o q r) → P) (rest : ∀ b w i j k m n o q r, F b w i j k m n o q r → G b w i j k m n o q r) : P := h rest
theorem i_seek (vg : Value) (p : ByteArray) (l : List Ru) (w : World) (hz : p.size ≤ 1048576) (hn : l.length ≤ 1048576) (hsz : ∀ r ∈ l, r.1.size ≤ 1048576) (hg : InRu w vg l) (h0 : skC p l = 0) :
    Calls Try.prog 104 #[.agg #[vg], .string p] w fun e w' => ∃ u1 u2 vl vm, e = .returned (.tuple #[.agg #[.int .i64 (paA p).st, .int .i64 (paA p).sa, u1, u2, vg, vl, vm], .int .i64 0]) ∧ InRd w' u1 u2 vg vl vm (paA p) l ∧ Below w.heap.size w w' := by
  obtain ⟨ag, kg, rfl⟩ := inRu_sl hg
  obtain ⟨hok, hpc⟩ := skC_ok h0
  obtain ⟨hv, hp0, hp20⟩ := paC_ok hpc
  have hbx := ((Below.refl w.heap.size w).alloc (Nat.le_refl _) (.cells #[.slice ag l.length kg] 59)).alloc (by simp) (.cells #[.int .i64 0, .int .i64 0, .slice none 0 0, .slice none 0 0, .slice none 0 0, .slice none 0 0, .slice none 0 0] 117)
  have HBX : Hid (∀ w', Below ((w.alloc (.cells #[.slice ag l.length kg] 59)).alloc (.cells #[.int .i64 0, .int .i64 0, .slice none 0 0, .slice none 0 0, .slice none 0 0, .slice none 0 0, .slice none 0 0] 117)).heap.size ((w.alloc (.cells #[.slice ag l.length kg] 59)).alloc (.cells #[.int .i64 0, .int .i64 0, .slice none 0 0, .slice none 0 0, .slice none 0 0, .slice none 0 0, .slice none 0 0] 117)) w' → Below w.heap.size w w') := fun w' h => below_box (below_box h)
  have HG0 := Lib.hid hg
  have HIG := Lib.hid (inRu_below hg hbx)
  have HG := Lib.hid (i_ValidGrammar (.slice ag l.length kg) l _ hn hsz HIG.out)
  have HV := Lib.hid (fun w => i_ValidWord p w (by unfold maxLen; omega))
  have HPC := Lib.hid (fun w => i_patternCode p w hv)
  rw [hok] at HG
  rw [hv] at HV
  rw [hpc] at HPC
  have HP20 := Lib.hid hp20
  have HSM := Lib.hid (paA_sm hp20)
  have HSZ := Lib.hid hsz
  have HOK2 : Hid ((gOk l && auOk (paA p)) = true) := by show _ = _; rw [hok, paA_ok hp20]; rfl
  have HOK := Lib.hid hok
  clear hg h0 hok hpc hv hsz hbx hp20 hp0
  go_enter Try.func104, Try.ntmps104
  go_wp2_with fail
  refine HG.out.mono ?_
  rintro e w2 ⟨rfl, hb2⟩
  go_wp2_with fail
  refine (HV.out _).mono ?_
  rintro e w2' ⟨rfl, rfl⟩
  go_wp2_with fail
  refine (HPC.out _).mono ?_
  rintro e w3 ⟨rfl, rfl⟩
  obtain ⟨w3, rfl⟩ : ∃ w3, w3 = w2 := ⟨_, rfl⟩
  have HG3 := Lib.hid (inRu_below HIG.out hb2)
  have HB3 := Lib.hid (HBX.out _ hb2)
  have c0 : w3.cell? ⟨w.heap.size, 0, none⟩ = some (.slice ag l.length kg) := by rw [hb2.cell (by first | (simp; done) | (simp; omega))]; simp [go_sem]
  have HZ : Hid (rd7 (w.heap.size + 1) (.int .i64 0) (.int .i64 0) (.slice none 0 0) (.slice none 0 0) (.slice none 0 0) (.slice none 0 0) (.slice none 0 0) w3) := ⟨by rw [hb2.cell (by first | (simp; done) | (simp; omega))]; simp [go_sem], by rw [hb2.cell (by first | (simp; done) | (simp; omega))]; simp [go_sem], by rw [hb2.cell (by first | (simp; done) | (simp; omega))]; simp [go_sem], by rw [hb2.cell (by first | (simp; done) | (simp; omega))]; simp [go_sem], by rw [hb2.cell (by first | (simp; done) | (simp; omega))]; simp [go_sem], by rw [hb2.cell (by first | (simp; done) | (simp; omega))]; simp [go_sem], by rw [hb2.cell (by first | (simp; done) | (simp; omega))]; simp [go_sem]⟩
  have HFZ : Hid (∀ j, w3.frozen? ⟨w.heap.size + 1, j, none⟩ = false) := fun j => by rw [hb2.frozen (by simp)]; simp [go_sem]
  have hlt : w.heap.size + 1 < w3.heap.size := World.block_lt_of_cell? _ _ HZ.out.1
  have HSS : Hid (∀ w', Below w3.heap.size w3 w' → w'.cell? ⟨w.heap.size, 0, none⟩ = some (.slice ag l.length kg)) := fun w' h => cell_later h c0
  clear hb2 HG HV HPC HIG
  go_wp2
  apply share_seek (fun bb wz a1 k1 a2 k2 al kl am km => Below w3.heap.size w3 wz ∧ rd7 bb (.int .i64 (paA p).st) (.int .i64 (paA p).sa) (.slice a1 (paA p).fi.length k1) (.slice a2 (paA p).nx.length k2) (.slice ag l.length kg) (.slice al (gLn l).length kl) (.slice am (gSm (paA p).nx l).length km) wz ∧ skO w3.heap.size wz (.slice a1 (paA p).fi.length k1) (.slice a2 (paA p).nx.length k2) (.slice al (gLn l).length kl) (.slice am (gSm (paA p).nx l).length km) p l)
  · intro REST0
    have REST := Lib.hid REST0
    clear REST0
    go_region_held3 (fun w' => w'.cell? ⟨w.heap.size, 0, none⟩ = some (.slice ag l.length kg)) (exact HSS.out _ (by (repeat (first | with_reducible exact Below.refl _ _ | with_reducible apply Below.drew | with_reducible apply bl_alloc | with_reducible apply bl_set | (with_reducible refine bl_tr ?_ hS) | (with_reducible refine bl_tr ?_ hT))); done)) (first | (go_at_call 78; with_reducible refine (i_patternAuto p _ HP20.out).mono ?_; rintro e wT ⟨x1, x2, vs, rfl, hA, hT⟩; obtain ⟨a1, k1, rfl⟩ := inI_sl (auR_inI hA); obtain ⟨a2, k2, rfl⟩ := inT_sl (auR_inT hA)) | (go_at_call 100; with_reducible refine (i_newRide _ _ (.slice ag l.length kg) (paA p) l _ HSM.out hn HSZ.out (inI_below (auR_inI hA) (by (repeat (first | with_reducible exact Below.refl _ _ | with_reducible apply Below.drew | with_reducible apply bl_alloc | with_reducible apply bl_set | (with_reducible refine bl_tr ?_ hS) | (with_reducible refine bl_tr ?_ hT))); done)) (inT_below (auR_inT hA) (by (repeat (first | with_reducible exact Below.refl _ _ | with_reducible apply Below.drew | with_reducible apply bl_alloc | with_reducible apply bl_set | (with_reducible refine bl_tr ?_ hS) | (with_reducible refine bl_tr ?_ hT))); done)) (inRu_below HG3.out (by (repeat (first | with_reducible exact Below.refl _ _ | with_reducible apply Below.drew | with_reducible apply bl_alloc | with_reducible apply bl_set | (with_reducible refine bl_tr ?_ hS) | (with_reducible refine bl_tr ?_ hT))); done)) HOK2.out).mono ?_; rintro e wS ⟨vl, vm, rfl, hol, hom, hS⟩; obtain ⟨al, kl, rfl, -, -⟩ := owns_sl3 hol; obtain ⟨am, km, rfl⟩ := inT_sl (ownT_in hom); refine bl_hv (P := Below (wT.alloc (.cells #[.int .i64 0, .int .i64 0, .slice none 0 0, .slice none 0 0, .slice none 0 0, .slice none 0 0, .slice none 0 0] 117)).heap.size (wT.alloc (.cells #[.int .i64 0, .int .i64 0, .slice none 0 0, .slice none 0 0, .slice none 0 0, .slice none 0 0, .slice none 0 0] 117)) wS) ?_ (fun hLB => ?_); (focus ((repeat (first | with_reducible exact Below.refl _ _ | with_reducible apply Below.drew | with_reducible apply bl_alloc | with_reducible apply bl_set | (with_reducible refine bl_tr ?_ hS) | (with_reducible refine bl_tr ?_ hT))); done)); have y0 : wS.cell? ⟨wT.heap.size, 0, none⟩ = some (.int .i64 0) := cell_later hLB (by simp [go_sem]); have y1 : wS.cell? ⟨wT.heap.size, 1, none⟩ = some (.int .i64 0) := cell_later hLB (by simp [go_sem]); have y2 : wS.cell? ⟨wT.heap.size, 2, none⟩ = some (.slice none 0 0) := cell_later hLB (by simp [go_sem]); have y3 : wS.cell? ⟨wT.heap.size, 3, none⟩ = some (.slice none 0 0) := cell_later hLB (by simp [go_sem]); have y4 : wS.cell? ⟨wT.heap.size, 4, none⟩ = some (.slice none 0 0) := cell_later hLB (by simp [go_sem]); have y5 : wS.cell? ⟨wT.heap.size, 5, none⟩ = some (.slice none 0 0) := cell_later hLB (by simp [go_sem]); have y6 : wS.cell? ⟨wT.heap.size, 6, none⟩ = some (.slice none 0 0) := cell_later hLB (by simp [go_sem]); have fy : ∀ j, wS.frozen? ⟨wT.heap.size, j, none⟩ = false := (fun j => by rw [hLB.frozen (by simp)]; simp [go_sem]); have hol2 := owns_weak (base' := wT.heap.size + 1) hol (Nat.le_trans (by simp : wT.heap.size + 1 ≤ (wT.alloc (.cells #[.int .i64 0, .int .i64 0, .slice none 0 0, .slice none 0 0, .slice none 0 0, .slice none 0 0, .slice none 0 0] 117)).heap.size) (bl_size (w := (wT.alloc (.cells #[.int .i64 0, .int .i64 0, .slice none 0 0, .slice none 0 0, .slice none 0 0, .slice none 0 0, .slice none 0 0] 117))) (by (repeat (first | with_reducible exact Below.refl _ _ | with_reducible apply Below.drew | with_reducible apply bl_alloc | with_reducible apply bl_set | (with_reducible refine bl_tr ?_ hS) | (with_reducible refine bl_tr ?_ hT))); done))); have hom2 := ownT_weak (base' := wT.heap.size + 1) hom (Nat.le_trans (by simp : wT.heap.size + 1 ≤ (wT.alloc (.cells #[.int .i64 0, .int .i64 0, .slice none 0 0, .slice none 0 0, .slice none 0 0, .slice none 0 0, .slice none 0 0] 117)).heap.size) (bl_size (w := (wT.alloc (.cells #[.int .i64 0, .int .i64 0, .slice none 0 0, .slice none 0 0, .slice none 0 0, .slice none 0 0, .slice none 0 0] 117))) (by (repeat (first | with_reducible exact Below.refl _ _ | with_reducible apply Below.drew | with_reducible apply bl_alloc | with_reducible apply bl_set | (with_reducible refine bl_tr ?_ hS) | (with_reducible refine bl_tr ?_ hT))); done))); clear hol hom; have hol := hol2; have hom := hom2; clear hol2 hom2; clear hLB; obtain ⟨bb, hbb⟩ : ∃ b, b = wT.heap.size := ⟨_, rfl⟩) | (go_at_call 100; with_reducible refine (i_newRide _ _ (.slice ag l.length kg) (paA p) l _ HSM.out hn HSZ.out (inI_below (auR_inI hA) (by (repeat (first | with_reducible exact Below.refl _ _ | with_reducible apply Below.drew | with_reducible apply bl_alloc | with_reducible apply bl_set | (with_reducible refine bl_tr ?_ hS) | (with_reducible refine bl_tr ?_ hT))); done)) (inT_below (auR_inT hA) (by (repeat (first | with_reducible exact Below.refl _ _ | with_reducible apply Below.drew | with_reducible apply bl_alloc | with_reducible apply bl_set | (with_reducible refine bl_tr ?_ hS) | (with_reducible refine bl_tr ?_ hT))); done)) (inRu_below HG3.out (by (repeat (first | with_reducible exact Below.refl _ _ | with_reducible apply Below.drew | with_reducible apply bl_alloc | with_reducible apply bl_set | (with_reducible refine bl_tr ?_ hS) | (with_reducible refine bl_tr ?_ hT))); done)) HOK2.out).mono ?_; rintro e wS ⟨vl, vm, rfl, hol, hom, hS⟩; obtain ⟨al, kl, rfl, -, -⟩ := owns_sl3 hol; obtain ⟨am, km, rfl⟩ := inT_sl (ownT_in hom); refine bl_hv (P := Below (wT.drew.alloc (.cells #[.int .i64 0, .int .i64 0, .slice none 0 0, .slice none 0 0, .slice none 0 0, .slice none 0 0, .slice none 0 0] 117)).heap.size (wT.drew.alloc (.cells #[.int .i64 0, .int .i64 0, .slice none 0 0, .slice none 0 0, .slice none 0 0, .slice none 0 0, .slice none 0 0] 117)) wS) ?_ (fun hLB => ?_); (focus ((repeat (first | with_reducible exact Below.refl _ _ | with_reducible apply Below.drew | with_reducible apply bl_alloc | with_reducible apply bl_set | (with_reducible refine bl_tr ?_ hS) | (with_reducible refine bl_tr ?_ hT))); done)); have y0 : wS.cell? ⟨wT.heap.size, 0, none⟩ = some (.int .i64 0) := cell_later hLB (by simp [go_sem]); have y1 : wS.cell? ⟨wT.heap.size, 1, none⟩ = some (.int .i64 0) := cell_later hLB (by simp [go_sem]); have y2 : wS.cell? ⟨wT.heap.size, 2, none⟩ = some (.slice none 0 0) := cell_later hLB (by simp [go_sem]); have y3 : wS.cell? ⟨wT.heap.size, 3, none⟩ = some (.slice none 0 0) := cell_later hLB (by simp [go_sem]); have y4 : wS.cell? ⟨wT.heap.size, 4, none⟩ = some (.slice none 0 0) := cell_later hLB (by simp [go_sem]); have y5 : wS.cell? ⟨wT.heap.size, 5, none⟩ = some (.slice none 0 0) := cell_later hLB (by simp [go_sem]); have y6 : wS.cell? ⟨wT.heap.size, 6, none⟩ = some (.slice none 0 0) := cell_later hLB (by simp [go_sem]); have fy : ∀ j, wS.frozen? ⟨wT.heap.size, j, none⟩ = false := (fun j => by rw [hLB.frozen (by simp)]; simp [go_sem]); have hol2 := owns_weak (base' := wT.heap.size + 1) hol (Nat.le_trans (by simp : wT.heap.size + 1 ≤ (wT.drew.alloc (.cells #[.int .i64 0, .int .i64 0, .slice none 0 0, .slice none 0 0, .slice none 0 0, .slice none 0 0, .slice none 0 0] 117)).heap.size) (bl_size (w := (wT.drew.alloc (.cells #[.int .i64 0, .int .i64 0, .slice none 0 0, .slice none 0 0, .slice none 0 0, .slice none 0 0, .slice none 0 0] 117))) (by (repeat (first | with_reducible exact Below.refl _ _ | with_reducible apply Below.drew | with_reducible apply bl_alloc | with_reducible apply bl_set | (with_reducible refine bl_tr ?_ hS) | (with_reducible refine bl_tr ?_ hT))); done))); have hom2 := ownT_weak (base' := wT.heap.size + 1) hom (Nat.le_trans (by simp : wT.heap.size + 1 ≤ (wT.drew.alloc (.cells #[.int .i64 0, .int .i64 0, .slice none 0 0, .slice none 0 0, .slice none 0 0, .slice none 0 0, .slice none 0 0] 117)).heap.size) (bl_size (w := (wT.drew.alloc (.cells #[.int .i64 0, .int .i64 0, .slice none 0 0, .slice none 0 0, .slice none 0 0, .slice none 0 0, .slice none 0 0] 117))) (by (repeat (first | with_reducible exact Below.refl _ _ | with_reducible apply Below.drew | with_reducible apply bl_alloc | with_reducible apply bl_set | (with_reducible refine bl_tr ?_ hS) | (with_reducible refine bl_tr ?_ hT))); done))); clear hol hom; have hol := hol2; have hom := hom2; clear hol2 hom2; clear hLB; obtain ⟨bb, hbb⟩ : ∃ b, b = wT.heap.size := ⟨_, rfl⟩) | (go_at_call 100; with_reducible refine (i_newRide _ _ (.slice ag l.length kg) (paA p) l _ HSM.out hn HSZ.out (inI_below (auR_inI hA) (by (repeat (first | with_reducible exact Below.refl _ _ | with_reducible apply Below.drew | with_reducible apply bl_alloc | with_reducible apply bl_set | (with_reducible refine bl_tr ?_ hS) | (with_reducible refine bl_tr ?_ hT))); done)) (inT_below (auR_inT hA) (by (repeat (first | with_reducible exact Below.refl _ _ | with_reducible apply Below.drew | with_reducible apply bl_alloc | with_reducible apply bl_set | (with_reducible refine bl_tr ?_ hS) | (with_reducible refine bl_tr ?_ hT))); done)) (inRu_below HG3.out (by (repeat (first | with_reducible exact Below.refl _ _ | with_reducible apply Below.drew | with_reducible apply bl_alloc | with_reducible apply bl_set | (with_reducible refine bl_tr ?_ hS) | (with_reducible refine bl_tr ?_ hT))); done)) HOK2.out).mono ?_; rintro e wS ⟨vl, vm, rfl, hol, hom, hS⟩; obtain ⟨al, kl, rfl, -, -⟩ := owns_sl3 hol; obtain ⟨am, km, rfl⟩ := inT_sl (ownT_in hom); refine bl_hv (P := Below (w3.alloc (.cells #[.int .i64 0, .int .i64 0, .slice none 0 0, .slice none 0 0, .slice none 0 0, .slice none 0 0, .slice none 0 0] 117)).heap.size (w3.alloc (.cells #[.int .i64 0, .int .i64 0, .slice none 0 0, .slice none 0 0, .slice none 0 0, .slice none 0 0, .slice none 0 0] 117)) wS) ?_ (fun hLB => ?_); (focus ((repeat (first | with_reducible exact Below.refl _ _ | with_reducible apply Below.drew | with_reducible apply bl_alloc | with_reducible apply bl_set | (with_reducible refine bl_tr ?_ hS) | (with_reducible refine bl_tr ?_ hT))); done)); have y0 : wS.cell? ⟨w3.heap.size, 0, none⟩ = some (.int .i64 0) := cell_later hLB (by simp [go_sem]); have y1 : wS.cell? ⟨w3.heap.size, 1, none⟩ = some (.int .i64 0) := cell_later hLB (by simp [go_sem]); have y2 : wS.cell? ⟨w3.heap.size, 2, none⟩ = some (.slice none 0 0) := cell_later hLB (by simp [go_sem]); have y3 : wS.cell? ⟨w3.heap.size, 3, none⟩ = some (.slice none 0 0) := cell_later hLB (by simp [go_sem]); have y4 : wS.cell? ⟨w3.heap.size, 4, none⟩ = some (.slice none 0 0) := cell_later hLB (by simp [go_sem]); have y5 : wS.cell? ⟨w3.heap.size, 5, none⟩ = some (.slice none 0 0) := cell_later hLB (by simp [go_sem]); have y6 : wS.cell? ⟨w3.heap.size, 6, none⟩ = some (.slice none 0 0) := cell_later hLB (by simp [go_sem]); have fy : ∀ j, wS.frozen? ⟨w3.heap.size, j, none⟩ = false := (fun j => by rw [hLB.frozen (by simp)]; simp [go_sem]); have hol2 := owns_weak (base' := w3.heap.size + 1) hol (Nat.le_trans (by simp : w3.heap.size + 1 ≤ (w3.alloc (.cells #[.int .i64 0, .int .i64 0, .slice none 0 0, .slice none 0 0, .slice none 0 0, .slice none 0 0, .slice none 0 0] 117)).heap.size) (bl_size (w := (w3.alloc (.cells #[.int .i64 0, .int .i64 0, .slice none 0 0, .slice none 0 0, .slice none 0 0, .slice none 0 0, .slice none 0 0] 117))) (by (repeat (first | with_reducible exact Below.refl _ _ | with_reducible apply Below.drew | with_reducible apply bl_alloc | with_reducible apply bl_set | (with_reducible refine bl_tr ?_ hS) | (with_reducible refine bl_tr ?_ hT))); done))); have hom2 := ownT_weak (base' := w3.heap.size + 1) hom (Nat.le_trans (by simp : w3.heap.size + 1 ≤ (w3.alloc (.cells #[.int .i64 0, .int .i64 0, .slice none 0 0, .slice none 0 0, .slice none 0 0, .slice none 0 0, .slice none 0 0] 117)).heap.size) (bl_size (w := (w3.alloc (.cells #[.int .i64 0, .int .i64 0, .slice none 0 0, .slice none 0 0, .slice none 0 0, .slice none 0 0, .slice none 0 0] 117))) (by (repeat (first | with_reducible exact Below.refl _ _ | with_reducible apply Below.drew | with_reducible apply bl_alloc | with_reducible apply bl_set | (with_reducible refine bl_tr ?_ hS) | (with_reducible refine bl_tr ?_ hT))); done))); clear hol hom; have hol := hol2; have hom := hom2; clear hol2 hom2; have hA2 := auR_weak (base' := w3.heap.size + 1) (auR_after hA (show Below wT.heap.size wT wS from (by (repeat (first | with_reducible exact Below.refl _ _ | with_reducible apply Below.drew | with_reducible apply bl_alloc | with_reducible apply bl_set | (with_reducible refine bl_tr ?_ hS) | (with_reducible refine bl_tr ?_ hT))); done))) (Nat.le_trans (by simp : w3.heap.size + 1 ≤ (w3.alloc (.cells #[.int .i64 0, .int .i64 0, .slice none 0 0, .slice none 0 0, .slice none 0 0, .slice none 0 0, .slice none 0 0] 117)).heap.size) (bl_size (w := (w3.alloc (.cells #[.int .i64 0, .int .i64 0, .slice none 0 0, .slice none 0 0, .slice none 0 0, .slice none 0 0, .slice none 0 0] 117))) (by (repeat (first | with_reducible exact Below.refl _ _ | with_reducible apply Below.drew | with_reducible apply bl_alloc | with_reducible apply bl_set | (with_reducible refine bl_tr ?_ hS) | (with_reducible refine bl_tr ?_ hT))); done))); clear hLB; obtain ⟨bb, hbb⟩ : ∃ b, b = w3.heap.size := ⟨_, rfl⟩) | (go_at_call 100; with_reducible refine (i_newRide _ _ (.slice ag l.length kg) (paA p) l _ HSM.out hn HSZ.out (inI_below (auR_inI hA) (by (repeat (first | with_reducible exact Below.refl _ _ | with_reducible apply Below.drew | with_reducible apply bl_alloc | with_reducible apply bl_set | (with_reducible refine bl_tr ?_ hS) | (with_reducible refine bl_tr ?_ hT))); done)) (inT_below (auR_inT hA) (by (repeat (first | with_reducible exact Below.refl _ _ | with_reducible apply Below.drew | with_reducible apply bl_alloc | with_reducible apply bl_set | (with_reducible refine bl_tr ?_ hS) | (with_reducible refine bl_tr ?_ hT))); done)) (inRu_below HG3.out (by (repeat (first | with_reducible exact Below.refl _ _ | with_reducible apply Below.drew | with_reducible apply bl_alloc | with_reducible apply bl_set | (with_reducible refine bl_tr ?_ hS) | (with_reducible refine bl_tr ?_ hT))); done)) HOK2.out).mono ?_; rintro e wS ⟨vl, vm, rfl, hol, hom, hS⟩; obtain ⟨al, kl, rfl, -, -⟩ := owns_sl3 hol; obtain ⟨am, km, rfl⟩ := inT_sl (ownT_in hom); refine bl_hv (P := Below (w3.drew.alloc (.cells #[.int .i64 0, .int .i64 0, .slice none 0 0, .slice none 0 0, .slice none 0 0, .slice none 0 0, .slice none 0 0] 117)).heap.size (w3.drew.alloc (.cells #[.int .i64 0, .int .i64 0, .slice none 0 0, .slice none 0 0, .slice none 0 0, .slice none 0 0, .slice none 0 0] 117)) wS) ?_ (fun hLB => ?_); (focus ((repeat (first | with_reducible exact Below.refl _ _ | with_reducible apply Below.drew | with_reducible apply bl_alloc | with_reducible apply bl_set | (with_reducible refine bl_tr ?_ hS) | (with_reducible refine bl_tr ?_ hT))); done)); have y0 : wS.cell? ⟨w3.heap.size, 0, none⟩ = some (.int .i64 0) := cell_later hLB (by simp [go_sem]); have y1 : wS.cell? ⟨w3.heap.size, 1, none⟩ = some (.int .i64 0) := cell_later hLB (by simp [go_sem]); have y2 : wS.cell? ⟨w3.heap.size, 2, none⟩ = some (.slice none 0 0) := cell_later hLB (by simp [go_sem]); have y3 : wS.cell? ⟨w3.heap.size, 3, none⟩ = some (.slice none 0 0) := cell_later hLB (by simp [go_sem]); have y4 : wS.cell? ⟨w3.heap.size, 4, none⟩ = some (.slice none 0 0) := cell_later hLB (by simp [go_sem]); have y5 : wS.cell? ⟨w3.heap.size, 5, none⟩ = some (.slice none 0 0) := cell_later hLB (by simp [go_sem]); have y6 : wS.cell? ⟨w3.heap.size, 6, none⟩ = some (.slice none 0 0) := cell_later hLB (by simp [go_sem]); have fy : ∀ j, wS.frozen? ⟨w3.heap.size, j, none⟩ = false := (fun j => by rw [hLB.frozen (by simp)]; simp [go_sem]); have hol2 := owns_weak (base' := w3.heap.size + 1) hol (Nat.le_trans (by simp : w3.heap.size + 1 ≤ (w3.drew.alloc (.cells #[.int .i64 0, .int .i64 0, .slice none 0 0, .slice none 0 0, .slice none 0 0, .slice none 0 0, .slice none 0 0] 117)).heap.size) (bl_size (w := (w3.drew.alloc (.cells #[.int .i64 0, .int .i64 0, .slice none 0 0, .slice none 0 0, .slice none 0 0, .slice none 0 0, .slice none 0 0] 117))) (by (repeat (first | with_reducible exact Below.refl _ _ | with_reducible apply Below.drew | with_reducible apply bl_alloc | with_reducible apply bl_set | (with_reducible refine bl_tr ?_ hS) | (with_reducible refine bl_tr ?_ hT))); done))); have hom2 := ownT_weak (base' := w3.heap.size + 1) hom (Nat.le_trans (by simp : w3.heap.size + 1 ≤ (w3.drew.alloc (.cells #[.int .i64 0, .int .i64 0, .slice none 0 0, .slice none 0 0, .slice none 0 0, .slice none 0 0, .slice none 0 0] 117)).heap.size) (bl_size (w := (w3.drew.alloc (.cells #[.int .i64 0, .int .i64 0, .slice none 0 0, .slice none 0 0, .slice none 0 0, .slice none 0 0, .slice none 0 0] 117))) (by (repeat (first | with_reducible exact Below.refl _ _ | with_reducible apply Below.drew | with_reducible apply bl_alloc | with_reducible apply bl_set | (with_reducible refine bl_tr ?_ hS) | (with_reducible refine bl_tr ?_ hT))); done))); clear hol hom; have hol := hol2; have hom := hom2; clear hol2 hom2; have hA2 := auR_weak (base' := w3.heap.size + 1) (auR_after hA (show Below wT.heap.size wT wS from (by (repeat (first | with_reducible exact Below.refl _ _ | with_reducible apply Below.drew | with_reducible apply bl_alloc | with_reducible apply bl_set | (with_reducible refine bl_tr ?_ hS) | (with_reducible refine bl_tr ?_ hT))); done))) (Nat.le_trans (by simp : w3.heap.size + 1 ≤ (w3.drew.alloc (.cells #[.int .i64 0, .int .i64 0, .slice none 0 0, .slice none 0 0, .slice none 0 0, .slice none 0 0, .slice none 0 0] 117)).heap.size) (bl_size (w := (w3.drew.alloc (.cells #[.int .i64 0, .int .i64 0, .slice none 0 0, .slice none 0 0, .slice none 0 0, .slice none 0 0, .slice none 0 0] 117))) (by (repeat (first | with_reducible exact Below.refl _ _ | with_reducible apply Below.drew | with_reducible apply bl_alloc | with_reducible apply bl_set | (with_reducible refine bl_tr ?_ hS) | (with_reducible refine bl_tr ?_ hT))); done))); clear hLB; obtain ⟨bb, hbb⟩ : ∃ b, b = w3.heap.size := ⟨_, rfl⟩) | (go_at_call 100; with_reducible refine (i_newRide _ _ (.slice ag l.length kg) (paA p) l _ HSM.out hn HSZ.out (inI_below (auR_inI hA) (by (repeat (first | with_reducible exact Below.refl _ _ | with_reducible apply Below.drew | with_reducible apply bl_alloc | with_reducible apply bl_set | (with_reducible refine bl_tr ?_ hS) | (with_reducible refine bl_tr ?_ hT))); done)) (inT_below (auR_inT hA) (by (repeat (first | with_reducible exact Below.refl _ _ | with_reducible apply Below.drew | with_reducible apply bl_alloc | with_reducible apply bl_set | (with_reducible refine bl_tr ?_ hS) | (with_reducible refine bl_tr ?_ hT))); done)) (inRu_below HG3.out (by (repeat (first | with_reducible exact Below.refl _ _ | with_reducible apply Below.drew | with_reducible apply bl_alloc | with_reducible apply bl_set | (with_reducible refine bl_tr ?_ hS) | (with_reducible refine bl_tr ?_ hT))); done)) HOK2.out).mono ?_; rintro e wS ⟨vl, vm, rfl, hol, hom, hS⟩; obtain ⟨al, kl, rfl, -, -⟩ := owns_sl3 hol; obtain ⟨am, km, rfl⟩ := inT_sl (ownT_in hom); obtain ⟨bb, hbb⟩ : ∃ b, b = wS.heap.size := ⟨_, rfl⟩))
    · have hol := own_len hol (gLn_len3 HOK.out).symm
      have hle : w3.heap.size ≤ wT.heap.size := bl_size (by (repeat (first | with_reducible exact Below.refl _ _ | with_reducible apply Below.drew | with_reducible apply bl_alloc | with_reducible apply bl_set | (with_reducible refine bl_tr ?_ hS) | (with_reducible refine bl_tr ?_ hT))); done)
      have hsk : skO w3.heap.size wS (.slice a1 (paA p).fi.length k1) (.slice a2 (paA p).nx.length k2) (.slice al (gLn l).length kl) (.slice am (gSm (paA p).nx l).length km) p l := ⟨(auR_weak (auR_after hA (show Below wT.heap.size wT wS from (by (repeat (first | with_reducible exact Below.refl _ _ | with_reducible apply Below.drew | with_reducible apply bl_alloc | with_reducible apply bl_set | (with_reducible refine bl_tr ?_ hS) | (with_reducible refine bl_tr ?_ hT))); done))) (by first | exact Nat.le_refl _ | (simp; done) | (simp; omega))).1, rows_ownT (auR_weak (auR_after hA (show Below wT.heap.size wT wS from (by (repeat (first | with_reducible exact Below.refl _ _ | with_reducible apply Below.drew | with_reducible apply bl_alloc | with_reducible apply bl_set | (with_reducible refine bl_tr ?_ hS) | (with_reducible refine bl_tr ?_ hT))); done))) (by first | exact Nat.le_refl _ | (simp; done) | (simp; omega))).2.1, owns_weak hol (by first | exact hle | (simp; exact hle)), ownT_weak hom (by first | exact hle | (simp; exact hle))⟩
      have hbx := ride_box wS (.int .i64 (paA p).st) (.int .i64 (paA p).sa) (.slice a1 (paA p).fi.length k1) (.slice a2 (paA p).nx.length k2) (.slice ag l.length kg) (.slice al (gLn l).length kl) (.slice am (gSm (paA p).nx l).length km)
      have hF : Below w3.heap.size w3 (wS.alloc (.cells #[.int .i64 (paA p).st, .int .i64 (paA p).sa, .slice a1 (paA p).fi.length k1, .slice a2 (paA p).nx.length k2, .slice ag l.length kg, .slice al (gLn l).length kl, .slice am (gSm (paA p).nx l).length km] 117)) ∧ rd7 wS.heap.size (.int .i64 (paA p).st) (.int .i64 (paA p).sa) (.slice a1 (paA p).fi.length k1) (.slice a2 (paA p).nx.length k2) (.slice ag l.length kg) (.slice al (gLn l).length kl) (.slice am (gSm (paA p).nx l).length km) (wS.alloc (.cells #[.int .i64 (paA p).st, .int .i64 (paA p).sa, .slice a1 (paA p).fi.length k1, .slice a2 (paA p).nx.length k2, .slice ag l.length kg, .slice al (gLn l).length kl, .slice am (gSm (paA p).nx l).length km] 117)) ∧ skO w3.heap.size (wS.alloc (.cells #[.int .i64 (paA p).st, .int .i64 (paA p).sa, .slice a1 (paA p).fi.length k1, .slice a2 (paA p).nx.length k2, .slice ag l.length kg, .slice al (gLn l).length kl, .slice am (gSm (paA p).nx l).length km] 117)) (.slice a1 (paA p).fi.length k1) (.slice a2 (paA p).nx.length k2) (.slice al (gLn l).length kl) (.slice am (gSm (paA p).nx l).length km) p l := ⟨(by (repeat (first | with_reducible exact Below.refl _ _ | with_reducible apply Below.drew | with_reducible apply bl_alloc | with_reducible apply bl_set | (with_reducible refine bl_tr ?_ hS) | (with_reducible refine bl_tr ?_ hT))); done), hbx.1, skO_after hsk hbx.2⟩
      rw [← hbb] at hF ⊢
      refine gen_then (fun wz => Below w3.heap.size w3 wz ∧ rd7 bb (.int .i64 (paA p).st) (.int .i64 (paA p).sa) (.slice a1 (paA p).fi.length k1) (.slice a2 (paA p).nx.length k2) (.slice ag l.length kg) (.slice al (gLn l).length kl) (.slice am (gSm (paA p).nx l).length km) wz ∧ skO w3.heap.size wz (.slice a1 (paA p).fi.length k1) (.slice a2 (paA p).nx.length k2) (.slice al (gLn l).length kl) (.slice am (gSm (paA p).nx l).length km) p l) hF ?_
      intro wz hF
      exact REST.out bb wz a1 k1 a2 k2 al kl am km hF
    · have hol := own_len hol (gLn_len3 HOK.out).symm
      have hle : w3.heap.size ≤ wT.heap.size := bl_size (by (repeat (first | with_reducible exact Below.refl _ _ | with_reducible apply Below.drew | with_reducible apply bl_alloc | with_reducible apply bl_set | (with_reducible refine bl_tr ?_ hS) | (with_reducible refine bl_tr ?_ hT))); done)
      have hBw := below7 (v0 := .int .i64 (paA p).st) (v1 := .int .i64 (paA p).sa) (v2 := .slice a1 (paA p).fi.length k1) (v3 := .slice a2 (paA p).nx.length k2) (v4 := .slice ag l.length kg) (v5 := .slice al (gLn l).length kl) (v6 := .slice am (gSm (paA p).nx l).length km) (show Below w3.heap.size w3 wS from (by (repeat (first | with_reducible exact Below.refl _ _ | with_reducible apply Below.drew | with_reducible apply bl_alloc | with_reducible apply bl_set | (with_reducible refine bl_tr ?_ hS) | (with_reducible refine bl_tr ?_ hT))); done)) (show w3.heap.size ≤ wT.heap.size from hle)
      have hBt := below7 (v0 := .int .i64 (paA p).st) (v1 := .int .i64 (paA p).sa) (v2 := .slice a1 (paA p).fi.length k1) (v3 := .slice a2 (paA p).nx.length k2) (v4 := .slice ag l.length kg) (v5 := .slice al (gLn l).length kl) (v6 := .slice am (gSm (paA p).nx l).length km) (show Below wT.heap.size wT wS from (by (repeat (first | with_reducible exact Below.refl _ _ | with_reducible apply Below.drew | with_reducible apply bl_alloc | with_reducible apply bl_set | (with_reducible refine bl_tr ?_ hS) | (with_reducible refine bl_tr ?_ hT))); done)) (Nat.le_refl _)
      have hA2 := auR_weak (base' := w3.heap.size) (auR_after hA hBt) (by first | exact Nat.le_refl _ | (simp; done) | (simp; omega))
      have hF : Below w3.heap.size w3 (set7 wS wT.heap.size (.int .i64 (paA p).st) (.int .i64 (paA p).sa) (.slice a1 (paA p).fi.length k1) (.slice a2 (paA p).nx.length k2) (.slice ag l.length kg) (.slice al (gLn l).length kl) (.slice am (gSm (paA p).nx l).length km)) ∧ rd7 wT.heap.size (.int .i64 (paA p).st) (.int .i64 (paA p).sa) (.slice a1 (paA p).fi.length k1) (.slice a2 (paA p).nx.length k2) (.slice ag l.length kg) (.slice al (gLn l).length kl) (.slice am (gSm (paA p).nx l).length km) (set7 wS wT.heap.size (.int .i64 (paA p).st) (.int .i64 (paA p).sa) (.slice a1 (paA p).fi.length k1) (.slice a2 (paA p).nx.length k2) (.slice ag l.length kg) (.slice al (gLn l).length kl) (.slice am (gSm (paA p).nx l).length km)) ∧ skO w3.heap.size (set7 wS wT.heap.size (.int .i64 (paA p).st) (.int .i64 (paA p).sa) (.slice a1 (paA p).fi.length k1) (.slice a2 (paA p).nx.length k2) (.slice ag l.length kg) (.slice al (gLn l).length kl) (.slice am (gSm (paA p).nx l).length km)) (.slice a1 (paA p).fi.length k1) (.slice a2 (paA p).nx.length k2) (.slice al (gLn l).length kl) (.slice am (gSm (paA p).nx l).length km) p l := ⟨hBw, put7 (.int .i64 (paA p).st) (.int .i64 (paA p).sa) (.slice a1 (paA p).fi.length k1) (.slice a2 (paA p).nx.length k2) (.slice ag l.length kg) (.slice al (gLn l).length kl) (.slice am (gSm (paA p).nx l).length km) y0 y1 y2 y3 y4 y5 y6, hA2.1, rows_ownT hA2.2.1, owns_weak (own7 hol (Nat.lt_succ_self _)) (by omega), ownT_weak (ownT7 hom (Nat.lt_succ_self _)) (by omega)⟩
      unfold set7 at hF
      rw [← hbb] at hF ⊢
      refine gen_then (fun wz => Below w3.heap.size w3 wz ∧ rd7 bb (.int .i64 (paA p).st) (.int .i64 (paA p).sa) (.slice a1 (paA p).fi.length k1) (.slice a2 (paA p).nx.length k2) (.slice ag l.length kg) (.slice al (gLn l).length kl) (.slice am (gSm (paA p).nx l).length km) wz ∧ skO w3.heap.size wz (.slice a1 (paA p).fi.length k1) (.slice a2 (paA p).nx.length k2) (.slice al (gLn l).length kl) (.slice am (gSm (paA p).nx l).length km) p l) hF ?_
      intro wz hF
      exact REST.out bb wz a1 k1 a2 k2 al kl am km hF
    · have hol := own_len hol (gLn_len3 HOK.out).symm
      have hBw := below7 (v0 := .int .i64 (paA p).st) (v1 := .int .i64 (paA p).sa) (v2 := .slice a1 (paA p).fi.length k1) (v3 := .slice a2 (paA p).nx.length k2) (v4 := .slice ag l.length kg) (v5 := .slice al (gLn l).length kl) (v6 := .slice am (gSm (paA p).nx l).length km) (show Below w3.heap.size w3 wS from (by (repeat (first | with_reducible exact Below.refl _ _ | with_reducible apply Below.drew | with_reducible apply bl_alloc | with_reducible apply bl_set | (with_reducible refine bl_tr ?_ hS) | (with_reducible refine bl_tr ?_ hT))); done)) (Nat.le_refl _)
      have hA3 := auR_weak (base' := w3.heap.size) (auR7 (b := w3.heap.size) (v0 := .int .i64 (paA p).st) (v1 := .int .i64 (paA p).sa) (v2 := .slice a1 (paA p).fi.length k1) (v3 := .slice a2 (paA p).nx.length k2) (v4 := .slice ag l.length kg) (v5 := .slice al (gLn l).length kl) (v6 := .slice am (gSm (paA p).nx l).length km) hA2 (Nat.lt_succ_self _)) (Nat.le_succ _)
      have hF : Below w3.heap.size w3 (set7 wS w3.heap.size (.int .i64 (paA p).st) (.int .i64 (paA p).sa) (.slice a1 (paA p).fi.length k1) (.slice a2 (paA p).nx.length k2) (.slice ag l.length kg) (.slice al (gLn l).length kl) (.slice am (gSm (paA p).nx l).length km)) ∧ rd7 w3.heap.size (.int .i64 (paA p).st) (.int .i64 (paA p).sa) (.slice a1 (paA p).fi.length k1) (.slice a2 (paA p).nx.length k2) (.slice ag l.length kg) (.slice al (gLn l).length kl) (.slice am (gSm (paA p).nx l).length km) (set7 wS w3.heap.size (.int .i64 (paA p).st) (.int .i64 (paA p).sa) (.slice a1 (paA p).fi.length k1) (.slice a2 (paA p).nx.length k2) (.slice ag l.length kg) (.slice al (gLn l).length kl) (.slice am (gSm (paA p).nx l).length km)) ∧ skO w3.heap.size (set7 wS w3.heap.size (.int .i64 (paA p).st) (.int .i64 (paA p).sa) (.slice a1 (paA p).fi.length k1) (.slice a2 (paA p).nx.length k2) (.slice ag l.length kg) (.slice al (gLn l).length kl) (.slice am (gSm (paA p).nx l).length km)) (.slice a1 (paA p).fi.length k1) (.slice a2 (paA p).nx.length k2) (.slice al (gLn l).length kl) (.slice am (gSm (paA p).nx l).length km) p l := ⟨hBw, put7 (.int .i64 (paA p).st) (.int .i64 (paA p).sa) (.slice a1 (paA p).fi.length k1) (.slice a2 (paA p).nx.length k2) (.slice ag l.length kg) (.slice al (gLn l).length kl) (.slice am (gSm (paA p).nx l).length km) y0 y1 y2 y3 y4 y5 y6, hA3.1, rows_ownT hA3.2.1, owns_weak (own7 hol (Nat.lt_succ_self _)) (Nat.le_succ _), ownT_weak (ownT7 hom (Nat.lt_succ_self _)) (Nat.le_succ _)⟩
      unfold set7 at hF
      rw [← hbb] at hF ⊢
      refine gen_then (fun wz => Below w3.heap.size w3 wz ∧ rd7 bb (.int .i64 (paA p).st) (.int .i64 (paA p).sa) (.slice a1 (paA p).fi.length k1) (.slice a2 (paA p).nx.length k2) (.slice ag l.length kg) (.slice al (gLn l).length kl) (.slice am (gSm (paA p).nx l).length km) wz ∧ skO w3.heap.size wz (.slice a1 (paA p).fi.length k1) (.slice a2 (paA p).nx.length k2) (.slice al (gLn l).length kl) (.slice am (gSm (paA p).nx l).length km) p l) ⟨below_eq hbb hF.1, hF.2.1, hbb ▸ hF.2.2⟩ ?_
      intro wz hF
      exact REST.out bb wz a1 k1 a2 k2 al kl am km hF
  · intro bb wz a1 k1 a2 k2 al kl am km hF
    obtain ⟨hbw, ⟨c0', c1', c2', c3', c4', c5', c6'⟩, hrd⟩ := hF
    obtain ⟨z0, z1, z2, z3, z4, z5, z6⟩ := HZ.out
    have d0 := cell_later hbw z0
    have d1 := cell_later hbw z1
    have d2 := cell_later hbw z2
    have d3 := cell_later hbw z3
    have d4 := cell_later hbw z4
    have d5 := cell_later hbw z5
    have d6 := cell_later hbw z6
    have fz : ∀ j, wz.frozen? ⟨w.heap.size + 1, j, none⟩ = false := fun j => by rw [hbw.frozen (p := ⟨w.heap.size + 1, j, none⟩) hlt]; exact HFZ.out j
    have HBB := Lib.hid (HB3.out.trans (hbw.mono HB3.out.size))
    have HB4 := Lib.hid (below7 (b := w.heap.size + 1) (v0 := .int .i64 (paA p).st) (v1 := .int .i64 (paA p).sa) (v2 := .slice a1 (paA p).fi.length k1) (v3 := .slice a2 (paA p).nx.length k2) (v4 := .slice ag l.length kg) (v5 := .slice al (gLn l).length kl) (v6 := .slice am (gSm (paA p).nx l).length km) HBB.out (Nat.le_succ _))
    have HRD := Lib.hid (skO_rd (skO7 (b := w.heap.size + 1) (v0 := .int .i64 (paA p).st) (v1 := .int .i64 (paA p).sa) (v2 := .slice a1 (paA p).fi.length k1) (v3 := .slice a2 (paA p).nx.length k2) (v4 := .slice ag l.length kg) (v5 := .slice al (gLn l).length kl) (v6 := .slice am (gSm (paA p).nx l).length km) hrd hlt) (inRu_below HG0.out HB4.out))
    have hP := put7 (w := wz) (b := w.heap.size + 1) (.int .i64 (paA p).st) (.int .i64 (paA p).sa) (.slice a1 (paA p).fi.length k1) (.slice a2 (paA p).nx.length k2) (.slice ag l.length kg) (.slice al (gLn l).length kl) (.slice am (gSm (paA p).nx l).length km) d0 d1 d2 d3 d4 d5 d6
    clear hbw hrd z0 z1 z2 z3 z4 z5 z6 HZ HFZ HSS
    go_wp2
    refine (fun {W W' : World} (e : W' = W) (k : bodyPost _ _ _ _ _ W) => (e ▸ k : bodyPost _ _ _ _ _ W')) (W := set7 wz (w.heap.size + 1) (.int .i64 (paA p).st) (.int .i64 (paA p).sa) (.slice a1 (paA p).fi.length k1) (.slice a2 (paA p).nx.length k2) (.slice ag l.length kg) (.slice al (gLn l).length kl) (.slice am (gSm (paA p).nx l).length km)) rfl ?_
    generalize set7 wz (w.heap.size + 1) (.int .i64 (paA p).st) (.int .i64 (paA p).sa) (.slice a1 (paA p).fi.length k1) (.slice a2 (paA p).nx.length k2) (.slice ag l.length kg) (.slice al (gLn l).length kl) (.slice am (gSm (paA p).nx l).length km) = w5 at *
    obtain ⟨t0, t1, t2, t3, t4, t5, t6⟩ := hP
    refine bodyPost_ret (v := .tuple #[.agg #[.int .i64 (paA p).st, .int .i64 (paA p).sa, .slice a1 (paA p).fi.length k1, .slice a2 (paA p).nx.length k2, .slice ag l.length kg, .slice al (gLn l).length kl, .slice am (gSm (paA p).nx l).length km], .int .i64 0]) (by simp [results, Try.results104, go_sem, t0, t1, t2, t3, t4, t5, t6]) rfl ⟨_, _, _, _, rfl, HRD.out, HB4.out⟩
theorem i_seek_f (vg : Value) (p : ByteArray) (l : List Ru) (w : World) (hz : p.size ≤ 1048576) (hn : l.length ≤ 1048576) (hsz : ∀ r ∈ l, r.1.size ≤ 1048576) (hg : InRu w vg l) (h0 : skC p l ≠ 0) :
    Calls Try.prog 104 #[.agg #[vg], .string p] w fun e w' => e = .returned (.tuple #[.agg #[.int .i64 0, .int .i64 0, .slice none 0 0, .slice none 0 0, .slice none 0 0, .slice none 0 0, .slice none 0 0], .int .i64 (skC p l)]) ∧ Below w.heap.size w w' := by
  obtain ⟨ag, kg, rfl⟩ := inRu_sl hg
  have hbx := ((Below.refl w.heap.size w).alloc (Nat.le_refl _) (.cells #[.slice ag l.length kg] 59)).alloc (by simp) (.cells #[.int .i64 0, .int .i64 0, .slice none 0 0, .slice none 0 0, .slice none 0 0, .slice none 0 0, .slice none 0 0] 117)
  have HBX : Hid (∀ w', Below ((w.alloc (.cells #[.slice ag l.length kg] 59)).alloc (.cells #[.int .i64 0, .int .i64 0, .slice none 0 0, .slice none 0 0, .slice none 0 0, .slice none 0 0, .slice none 0 0] 117)).heap.size ((w.alloc (.cells #[.slice ag l.length kg] 59)).alloc (.cells #[.int .i64 0, .int .i64 0, .slice none 0 0, .slice none 0 0, .slice none 0 0, .slice none 0 0, .slice none 0 0] 117)) w' → Below w.heap.size w w') := fun w' h => below_box (below_box h)
  have HIG := Lib.hid (inRu_below hg hbx)
  have HG := Lib.hid (i_ValidGrammar (.slice ag l.length kg) l _ hn hsz HIG.out)
  have HV := Lib.hid (fun w => i_ValidWord p w (by unfold maxLen; omega))
  clear hg hsz hbx
  cases hok : gOk l
  · have e : skC p l = 1 := by simp [skC, hok]
    rw [e]
    rw [hok] at HG
    clear e h0 hok HV HIG
    go_enter Try.func104, Try.ntmps104
    go_wp2_with fail
    refine HG.out.mono ?_
    rintro e w2 ⟨rfl, hb2⟩
    have z0 : w2.cell? ⟨w.heap.size + 1, 0, none⟩ = some (.int .i64 0) := by rw [hb2.cell (by first | (simp; done) | (simp; omega))]; simp [go_sem]
    have z1 : w2.cell? ⟨w.heap.size + 1, 1, none⟩ = some (.int .i64 0) := by rw [hb2.cell (by first | (simp; done) | (simp; omega))]; simp [go_sem]
    have z2 : w2.cell? ⟨w.heap.size + 1, 2, none⟩ = some (.slice none 0 0) := by rw [hb2.cell (by first | (simp; done) | (simp; omega))]; simp [go_sem]
    have z3 : w2.cell? ⟨w.heap.size + 1, 3, none⟩ = some (.slice none 0 0) := by rw [hb2.cell (by first | (simp; done) | (simp; omega))]; simp [go_sem]
    have z4 : w2.cell? ⟨w.heap.size + 1, 4, none⟩ = some (.slice none 0 0) := by rw [hb2.cell (by first | (simp; done) | (simp; omega))]; simp [go_sem]
    have z5 : w2.cell? ⟨w.heap.size + 1, 5, none⟩ = some (.slice none 0 0) := by rw [hb2.cell (by first | (simp; done) | (simp; omega))]; simp [go_sem]
    have z6 : w2.cell? ⟨w.heap.size + 1, 6, none⟩ = some (.slice none 0 0) := by rw [hb2.cell (by first | (simp; done) | (simp; omega))]; simp [go_sem]
    have fz : ∀ j, w2.frozen? ⟨w.heap.size + 1, j, none⟩ = false := fun j => by rw [hb2.frozen (by simp)]; simp [go_sem]
    go_wp2
    have HB4 := Lib.hid (below7 (b := w.heap.size + 1) (v0 := .int .i64 0) (v1 := .int .i64 0) (v2 := .slice none 0 0) (v3 := .slice none 0 0) (v4 := .slice none 0 0) (v5 := .slice none 0 0) (v6 := .slice none 0 0) (HBX.out _ hb2) (Nat.le_succ _))
    have hP := put7 (w := w2) (b := w.heap.size + 1) (.int .i64 0) (.int .i64 0) (.slice none 0 0) (.slice none 0 0) (.slice none 0 0) (.slice none 0 0) (.slice none 0 0) z0 z1 z2 z3 z4 z5 z6
    clear hb2 z0 z1 z2 z3 z4 z5 z6 fz
    refine (fun {W W' : World} (e : W' = W) (k : bodyPost _ _ _ _ _ W) => (e ▸ k : bodyPost _ _ _ _ _ W')) (W := set7 w2 (w.heap.size + 1) (.int .i64 0) (.int .i64 0) (.slice none 0 0) (.slice none 0 0) (.slice none 0 0) (.slice none 0 0) (.slice none 0 0)) rfl ?_
    generalize set7 w2 (w.heap.size + 1) (.int .i64 0) (.int .i64 0) (.slice none 0 0) (.slice none 0 0) (.slice none 0 0) (.slice none 0 0) (.slice none 0 0) = w5 at *
    obtain ⟨t0, t1, t2, t3, t4, t5, t6⟩ := hP
    refine bodyPost_ret (v := .tuple #[.agg #[.int .i64 0, .int .i64 0, .slice none 0 0, .slice none 0 0, .slice none 0 0, .slice none 0 0, .slice none 0 0], .int .i64 1]) (by simp [results, Try.results104, go_sem, t0, t1, t2, t3, t4, t5, t6]) rfl ⟨rfl, HB4.out⟩
  · have esk : skC p l = paC p := by simp [skC, hok]
    rw [esk] at h0 ⊢
    rw [hok] at HG
    clear hok esk
    cases hv : validB p
    · have e : paC p = 1 := by simp [paC, hv]
      rw [e]
      rw [hv] at HV
      clear e hv h0
      go_enter Try.func104, Try.ntmps104
      go_wp2_with fail
      refine HG.out.mono ?_
      rintro e w2 ⟨rfl, hb2⟩
      go_wp2_with fail
      refine (HV.out _).mono ?_
      rintro e w2' ⟨rfl, rfl⟩
      have z0 : w2.cell? ⟨w.heap.size + 1, 0, none⟩ = some (.int .i64 0) := by rw [hb2.cell (by first | (simp; done) | (simp; omega))]; simp [go_sem]
      have z1 : w2.cell? ⟨w.heap.size + 1, 1, none⟩ = some (.int .i64 0) := by rw [hb2.cell (by first | (simp; done) | (simp; omega))]; simp [go_sem]
      have z2 : w2.cell? ⟨w.heap.size + 1, 2, none⟩ = some (.slice none 0 0) := by rw [hb2.cell (by first | (simp; done) | (simp; omega))]; simp [go_sem]
      have z3 : w2.cell? ⟨w.heap.size + 1, 3, none⟩ = some (.slice none 0 0) := by rw [hb2.cell (by first | (simp; done) | (simp; omega))]; simp [go_sem]
      have z4 : w2.cell? ⟨w.heap.size + 1, 4, none⟩ = some (.slice none 0 0) := by rw [hb2.cell (by first | (simp; done) | (simp; omega))]; simp [go_sem]
      have z5 : w2.cell? ⟨w.heap.size + 1, 5, none⟩ = some (.slice none 0 0) := by rw [hb2.cell (by first | (simp; done) | (simp; omega))]; simp [go_sem]
      have z6 : w2.cell? ⟨w.heap.size + 1, 6, none⟩ = some (.slice none 0 0) := by rw [hb2.cell (by first | (simp; done) | (simp; omega))]; simp [go_sem]
      have fz : ∀ j, w2.frozen? ⟨w.heap.size + 1, j, none⟩ = false := fun j => by rw [hb2.frozen (by simp)]; simp [go_sem]
      go_wp2
      have HB4 := Lib.hid (below7 (b := w.heap.size + 1) (v0 := .int .i64 0) (v1 := .int .i64 0) (v2 := .slice none 0 0) (v3 := .slice none 0 0) (v4 := .slice none 0 0) (v5 := .slice none 0 0) (v6 := .slice none 0 0) (HBX.out _ hb2) (Nat.le_succ _))
      have hP := put7 (w := w2) (b := w.heap.size + 1) (.int .i64 0) (.int .i64 0) (.slice none 0 0) (.slice none 0 0) (.slice none 0 0) (.slice none 0 0) (.slice none 0 0) z0 z1 z2 z3 z4 z5 z6
      clear hb2 z0 z1 z2 z3 z4 z5 z6 fz
      refine (fun {W W' : World} (e : W' = W) (k : bodyPost _ _ _ _ _ W) => (e ▸ k : bodyPost _ _ _ _ _ W')) (W := set7 w2 (w.heap.size + 1) (.int .i64 0) (.int .i64 0) (.slice none 0 0) (.slice none 0 0) (.slice none 0 0) (.slice none 0 0) (.slice none 0 0)) rfl ?_
      generalize set7 w2 (w.heap.size + 1) (.int .i64 0) (.int .i64 0) (.slice none 0 0) (.slice none 0 0) (.slice none 0 0) (.slice none 0 0) (.slice none 0 0) = w5 at *
      obtain ⟨t0, t1, t2, t3, t4, t5, t6⟩ := hP
      refine bodyPost_ret (v := .tuple #[.agg #[.int .i64 0, .int .i64 0, .slice none 0 0, .slice none 0 0, .slice none 0 0, .slice none 0 0, .slice none 0 0], .int .i64 1]) (by simp [results, Try.results104, go_sem, t0, t1, t2, t3, t4, t5, t6]) rfl ⟨rfl, HB4.out⟩
    · have HPC := Lib.hid (fun w => i_patternCode p w hv)
      rw [hv] at HV
      have hpb : (paC p == 0) = false := by rw [beq_eq_false_iff_ne]; exact h0
      have HPB := Lib.hid hpb
      clear hv hpb
      generalize paC p = c at *
      go_enter Try.func104, Try.ntmps104
      go_wp2_with fail
      refine HG.out.mono ?_
      rintro e w2 ⟨rfl, hb2⟩
      go_wp2_with fail
      refine (HV.out _).mono ?_
      rintro e w2' ⟨rfl, rfl⟩
      go_wp2_with fail
      refine (HPC.out _).mono ?_
      rintro e w2' ⟨rfl, rfl⟩
      have z0 : w2.cell? ⟨w.heap.size + 1, 0, none⟩ = some (.int .i64 0) := by rw [hb2.cell (by first | (simp; done) | (simp; omega))]; simp [go_sem]
      have z1 : w2.cell? ⟨w.heap.size + 1, 1, none⟩ = some (.int .i64 0) := by rw [hb2.cell (by first | (simp; done) | (simp; omega))]; simp [go_sem]
      have z2 : w2.cell? ⟨w.heap.size + 1, 2, none⟩ = some (.slice none 0 0) := by rw [hb2.cell (by first | (simp; done) | (simp; omega))]; simp [go_sem]
      have z3 : w2.cell? ⟨w.heap.size + 1, 3, none⟩ = some (.slice none 0 0) := by rw [hb2.cell (by first | (simp; done) | (simp; omega))]; simp [go_sem]
      have z4 : w2.cell? ⟨w.heap.size + 1, 4, none⟩ = some (.slice none 0 0) := by rw [hb2.cell (by first | (simp; done) | (simp; omega))]; simp [go_sem]
      have z5 : w2.cell? ⟨w.heap.size + 1, 5, none⟩ = some (.slice none 0 0) := by rw [hb2.cell (by first | (simp; done) | (simp; omega))]; simp [go_sem]
      have z6 : w2.cell? ⟨w.heap.size + 1, 6, none⟩ = some (.slice none 0 0) := by rw [hb2.cell (by first | (simp; done) | (simp; omega))]; simp [go_sem]
      have fz : ∀ j, w2.frozen? ⟨w.heap.size + 1, j, none⟩ = false := fun j => by rw [hb2.frozen (by simp)]; simp [go_sem]
      have hpb := HPB.out
      go_wp2
      have HB4 := Lib.hid (below7 (b := w.heap.size + 1) (v0 := .int .i64 0) (v1 := .int .i64 0) (v2 := .slice none 0 0) (v3 := .slice none 0 0) (v4 := .slice none 0 0) (v5 := .slice none 0 0) (v6 := .slice none 0 0) (HBX.out _ hb2) (Nat.le_succ _))
      have hP := put7 (w := w2) (b := w.heap.size + 1) (.int .i64 0) (.int .i64 0) (.slice none 0 0) (.slice none 0 0) (.slice none 0 0) (.slice none 0 0) (.slice none 0 0) z0 z1 z2 z3 z4 z5 z6
      clear hb2 z0 z1 z2 z3 z4 z5 z6 fz
      refine (fun {W W' : World} (e : W' = W) (k : bodyPost _ _ _ _ _ W) => (e ▸ k : bodyPost _ _ _ _ _ W')) (W := set7 w2 (w.heap.size + 1) (.int .i64 0) (.int .i64 0) (.slice none 0 0) (.slice none 0 0) (.slice none 0 0) (.slice none 0 0) (.slice none 0 0)) rfl ?_
      generalize set7 w2 (w.heap.size + 1) (.int .i64 0) (.int .i64 0) (.slice none 0 0) (.slice none 0 0) (.slice none 0 0) (.slice none 0 0) (.slice none 0 0) = w5 at *
      obtain ⟨t0, t1, t2, t3, t4, t5, t6⟩ := hP
      refine bodyPost_ret (v := .tuple #[.agg #[.int .i64 0, .int .i64 0, .slice none 0 0, .slice none 0 0, .slice none 0 0, .slice none 0 0, .slice none 0 0], .int .i64 c]) (by simp [results, Try.results104, go_sem, t0, t1, t2, t3, t4, t5, t6]) rfl ⟨rfl, HB4.out⟩
end Go.Proofs.Ytefcdkgfabaffaa
