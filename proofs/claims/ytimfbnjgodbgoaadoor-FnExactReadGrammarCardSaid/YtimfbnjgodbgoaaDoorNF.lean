/- GrammarText, of the program and of the reference. -/
import Derived.Test.YtimfbnjgodbgoaaDoorNE
import Derived.Deep.DeepCutAuto
namespace Go.Proofs.YtimfbnjgodbgoaaDoor
open Go.ChangeShapes Go.WideShapes Go.RowKit
set_option linter.unusedVariables false
set_option linter.unusedSimpArgs false
set_option maxHeartbeats 2000000
set_option maxRecDepth 100000
/-- the text of a rule, of the first k rules -/
def ruT (r : Ru) : List UInt8 := if r.1.size = 0 then (dcL r.2.1 ++ (32 :: dcL r.2.2)) ++ [10] else r.1.data.toList ++ [10]
def grT (l : List Ru) : Nat → List UInt8
  | 0 => []
  | k + 1 => grT l k ++ ruT (ruA l k)
def gTx (l : List Ru) : ByteArray := if gOk l then ⟨(grT l l.length).toArray⟩ else ⟨#[]⟩
theorem ruT_len {l : List Ru} (hok : gOk l = true) {k : Nat} (hk : k < l.length) : (ruT (ruA l k)).length ≤ 44 := by
  obtain ⟨r1, r2⟩ := gOk_rule hok hk
  have h4 := (gOk_some hok).1
  unfold ruT
  by_cases hz : (ruA l k).1.size = 0
  · obtain ⟨q1, q2, q3, q4⟩ := r1 hz
    have a1 := dcL_len (n := (ruA l k).2.1) (by omega)
    have a2 := dcL_len (n := (ruA l k).2.2) (by omega)
    rw [if_pos hz]
    simp only [List.length_append, List.length_cons, List.length_nil]
    omega
  · have := (r2 hz).1
    rw [if_neg hz]
    have hs : (ruA l k).1.data.size = (ruA l k).1.size := rfl
    rw [List.length_append, Array.length_toList, hs]
    simp only [List.length_cons, List.length_nil]
    omega
theorem grT_len {l : List Ru} (hok : gOk l = true) : ∀ k, k ≤ l.length → (grT l k).length ≤ 44 * k
  | 0, _ => by simp [grT]
  | k + 1, hk => by
    have := grT_len hok k (by omega)
    have := ruT_len hok (show k < l.length by omega)
    rw [grT, List.length_append]; omega
theorem s_GrammarText (v : Value) (l : List Ru) (w : World) (hn : l.length ≤ 1048576) (hsz : ∀ r ∈ l, r.1.size ≤ 1048576) (hin : InRu w v l) :
    Calls Tryd.prog 6 #[.agg #[v]] w fun e w' => e = .returned (.string (gTx l)) ∧ Below w.heap.size w w' := by
  obtain ⟨a, cap, rfl⟩ := inRu_sl hin
  have b0 := box_cell w (.slice a l.length cap) 29
  have i0 := inRu_box (o := .cells #[.slice a l.length cap] 29) hin
  have HS := Lib.hid (s_l02Ok w.heap.size 0 cap a l _ hn hsz b0 i0)
  have HI := Lib.hid i0
  clear hin hsz
  cases hok : gOk l
  · have hT : gTx l = ⟨#[]⟩ := by simp [gTx, hok]
    rw [hok] at HS
    rw [hT]
    clear hT hok i0 b0
    go_enter Tryd.func6, Tryd.ntmps6
    go_wp2_with fail
    refine (HS.out).mono ?_
    rintro e w1 ⟨rfl, hb1⟩
    have hbb := below_box hb1
    clear hb1
    go_wp2
    go_ret
    exact ⟨rfl, hbb⟩
  · have hT : gTx l = ⟨(grT l l.length).toArray⟩ := by simp [gTx, hok]
    rw [hok] at HS
    rw [hT]
    have HOK := Lib.hid hok
    have hl4 := (gOk_some hok).1
    clear hT hok i0
    go_enter Tryd.func6, Tryd.ntmps6
    go_wp2_with fail
    refine (HS.out).mono ?_
    rintro e w1 ⟨rfl, hb1⟩
    have c1 := cell_later hb1 b0
    have HI1 := Lib.hid (inRu_below HI.out hb1)
    have HB1 := Lib.hid (below_box hb1)
    have hw1 : w.heap.size < w1.heap.size := World.block_lt_of_cell? _ _ c1
    clear hb1 b0 HS HI
    go_wp2
    go_loopw [3, 4] (fun t i wr => ∃ k : Nat, k ≤ l.length ∧ i = .int .i64 k ∧ t = .string ⟨(grT l k).toArray⟩ ∧ Below w1.heap.size w1 wr) (fun _ i _ => l.length - (intOf i).toNat)
    case atStart => exact ⟨0, by omega, rfl, rfl, Below.refl _ _⟩
    case round =>
      obtain ⟨k, hk, rfl, rfl, hbr⟩ := hrel
      have HBR := Lib.hid hbr
      have cr := cell_later hbr c1
      by_cases hlt : k < l.length
      · have hkI : (k : Int) < l.length := by omega
        obtain ⟨b', off', rfl, hbl, hc0, hc1, hc2⟩ := inRu_at (inRu_below HI1.out hbr) hlt
        obtain ⟨r1, r2⟩ := gOk_rule HOK.out hlt
        have hlk := grT_len HOK.out k hk
        have hlr := ruT_len HOK.out hlt
        have hst : grT l (k + 1) = grT l k ++ ruT (ruA l k) := rfl
        by_cases hz : (ruA l k).1.size = 0
        · obtain ⟨q1, q2, q3, q4⟩ := r1 hz
          obtain ⟨p, hp⟩ := Int.eq_ofNat_of_zero_le q1
          obtain ⟨q, hq⟩ := Int.eq_ofNat_of_zero_le q3
          have hru : ruT (ruA l k) = (dcL p ++ (32 :: dcL q)) ++ [10] := by rw [ruT, if_pos hz, hp, hq]
          rw [hru] at hst hlr
          rw [size_zero hz] at hc0
          rw [hp] at hc1
          rw [hq] at hc2
          have HDp : Hid (∀ w, Calls Tryd.prog 16 #[.int .i64 (p : Int)] w fun e w' => e = .returned (.string ⟨(dcL p).toArray⟩) ∧ Below w.heap.size w w') := fun w => by have := s_Decimal (p + 1) p w (by omega) (by omega); simpa [dcL] using this
          have HDq : Hid (∀ w, Calls Tryd.prog 16 #[.int .i64 (q : Int)] w fun e w' => e = .returned (.string ⟨(dcL q).toArray⟩) ∧ Below w.heap.size w w') := fun w => by have := s_Decimal (q + 1) q w (by omega) (by omega); simpa [dcL] using this
          simp only [List.length_append, List.length_cons, List.length_nil] at hlr
          have hcat1 := cat_l (dcL p) [32] (dcL p ++ [32]) rfl (by simp; omega)
          have hcat2 := cat_l (dcL p ++ [32]) (dcL q) (dcL p ++ (32 :: dcL q)) (by simp) (by simp; omega)
          have hcat3 := cat_l (dcL p ++ (32 :: dcL q)) [10] ((dcL p ++ (32 :: dcL q)) ++ [10]) rfl (by simp; omega)
          have hcat4 := cat_l (grT l k) ((dcL p ++ (32 :: dcL q)) ++ [10]) (grT l (k + 1)) hst (by simp; omega)
          clear hp hq hru hst hz r1 r2 q1 q2 q3 q4 hlk hlr hbr
          generalize hT2 : grT l (k + 1) = T2 at *
          have HT2 := Lib.hid hT2
          clear hT2
          generalize grT l k = T1 at *
          generalize (dcL p ++ (32 :: dcL q)) ++ [10] = D4 at *
          generalize dcL p ++ (32 :: dcL q) = D3 at *
          generalize dcL p ++ [32] = D2 at *
          generalize dcL p = D1 at *
          generalize dcL q = D5 at *
          go_upto_region 10 with fail
          have HSP : Hid (∀ w', Below wr.heap.size wr w' → Below wr.heap.size wr w' ∧ w'.cell? ⟨b', off' + k * 3 + 1, none⟩ = some (.int .i64 p) ∧ w'.cell? ⟨b', off' + k * 3 + 2, none⟩ = some (.int .i64 q)) := fun w' h => ⟨h, cell_later h hc1, cell_later h hc2⟩
          go_region_held3 (fun w' => Below wr.heap.size wr w' ∧ w'.cell? ⟨b', off' + k * 3 + 1, none⟩ = some (.int .i64 p) ∧ w'.cell? ⟨b', off' + k * 3 + 2, none⟩ = some (.int .i64 q))
            (exact HSP.out _ (by (repeat (first | with_reducible exact hbB | with_reducible exact hbA | with_reducible exact Below.refl _ _ | with_reducible apply Below.drew | with_reducible apply nb_alloc)); done))
            (first | (go_at_call 16; (with_reducible refine (HDp.out _).mono ?_); rintro e wA ⟨rfl, hbA'⟩; have hbA : Below wr.heap.size wr wA := nb_tr (by (repeat (first | with_reducible exact Below.refl _ _ | with_reducible apply Below.drew)); done) hbA'; clear hbA') | (go_at_call 16; (with_reducible refine (HDq.out _).mono ?_); rintro e wB ⟨rfl, hbB'⟩; have hbB : Below wr.heap.size wr wB := nb_tr hbA hbB'; clear hbB'))
          have HBX := Lib.hid (HBR.out.trans (hbB.mono HBR.out.size))
          clear hcat1 hcat2 hcat3 hcat4 HSP HBR hbB hbA
          go_wp2
          go_roundw
          case rel => exact ⟨k + 1, by omega, by go_num, by rw [HT2.out], HBX.out⟩
          case measure => first | (simp [intOf]; done) | (simp [intOf]; omega)
        · have hru : ruT (ruA l k) = (ruA l k).1.data.toList ++ [10] := by rw [ruT, if_neg hz]
          rw [hru] at hst hlr
          obtain ⟨xs, hxs⟩ : ∃ xs : List UInt8, (ruA l k).1 = ⟨xs.toArray⟩ := ⟨(ruA l k).1.data.toList, by simp⟩
          have hne := neq_empty hz
          have hnn := not_empty hz
          rw [hxs] at hst hlr hc0 hne hnn
          simp only [List.length_append, List.length_cons, List.length_nil] at hlr
          simp only [List.toList_toArray] at hst hlr
          have hcat1 := cat_l xs [10] (xs ++ [10]) rfl (by simp; omega)
          have hcat2 := cat_l (grT l k) (xs ++ [10]) (grT l (k + 1)) hst (by simp; omega)
          clear hru hst hz r1 r2 hlk hlr hbr hxs
          generalize hT2 : grT l (k + 1) = T2 at *
          have HT2 := Lib.hid hT2
          clear hT2
          generalize grT l k = T1 at *
          generalize xs ++ [10] = D1 at *
          generalize (⟨xs.toArray⟩ : ByteArray) = S1 at *
          go_wp2
          go_roundw
          case rel => exact ⟨k + 1, by omega, by go_num, by rw [HT2.out], HBR.out⟩
          case measure => first | (simp [intOf]; done) | (simp [intOf]; omega)
      · obtain rfl : k = l.length := by omega
        have hkI : ¬ (l.length : Int) < l.length := by omega
        have HBX := Lib.hid (HB1.out.trans (hbr.mono HB1.out.size))
        clear hbr HBR
        go_wp2
        go_ret
        exact ⟨rfl, HBX.out⟩
end Go.Proofs.YtimfbnjgodbgoaaDoor
