/- Parts of a word that the reference spells; the codes of a part. -/
import Derived.Test.YtmcfjjhflnhehaaGH
import Derived.Test.YtmcfjjhflnhehaaB1
namespace Go.Proofs.Ytmcfjjhflnhehaa
open Go.ChangeShapes Go.WideShapes Go.RowKit
set_option linter.unusedVariables false
set_option linter.unusedSimpArgs false
set_option maxHeartbeats 2000000
set_option maxRecDepth 100000
/-- a part of a word -/
def ptX (l : List Ru) (i j : Int) : List UInt8 := ((wd l).take j.toNat).drop i.toNat
theorem ptX_snoc {l : List Ru} {i : Int} {k : Nat} (hi : i ≤ k) (h0 : 0 ≤ i) (hk : k < (wd l).length) : ptX l i ((k + 1 : Nat) : Int) = ptX l i k ++ [(wd l).getD k 0] := by
  unfold ptX
  rw [Int.toNat_natCast, Int.toNat_natCast, List.take_add_one, List.getElem?_eq_getElem hk, List.drop_append_of_le_length (by simp; omega)]
  simp [List.getD, hk]
theorem ptX_nil (l : List Ru) (i : Int) : ptX l i i = [] := by
  unfold ptX; rw [List.drop_eq_nil_iff, List.length_take]; omega
theorem s_l02Unpack (bq oq cap : Nat) (a : Option Addr) (l : List Ru) (i j : Int) (w : World) (hn : l.length ≤ 1048576) (hsz : ∀ r ∈ l, r.1.size ≤ 1048576) (hok : gOk l = true) (hcell : w.cell? ⟨bq, oq, none⟩ = some (.slice a l.length cap)) (hin : InRu w (.slice a l.length cap) l)
    (hi : 0 ≤ i) (hij : i ≤ j) (hj : j ≤ lastI (gLn l)) (hb : j - i ≤ 2000) :
    Calls Try.prog 65 #[.pointer (some ⟨bq, oq, none⟩), .int .i64 i, .int .i64 j] w fun e w' => e = .returned (.string ⟨(ptX l i j).toArray⟩) ∧ Below w.heap.size w w' := by
  have HS := Lib.hid (s_l02Lengths bq oq cap a l w hn hsz hcell hin)
  have hwl := wd_len hok
  have hjb : j ≤ 1000000000000000 := by
    by_cases hl : 0 < l.length
    · have := (gOk_some hok).2.2.2 _ (getD_mem (show l.length - 1 < (gLn l).length by rw [(gOk_some hok).2.2.1]; omega))
      rw [lastI_at (by rw [(gOk_some hok).2.2.1]; omega), (gOk_some hok).2.2.1] at hj
      omega
    · have : l = [] := List.eq_nil_of_length_eq_zero (by omega)
      subst this
      have : lastI (gLn ([] : List Ru)) = 0 := rfl
      omega
  rw [hok] at HS
  have HIN := Lib.hid hin
  have HL := Lib.hid (fun (gl cl base : Nat) (w : World) (i : Int) => s_l02Letter bq oq cap gl cl base a l i w hok)
  have hgl := (gOk_some hok).2.2.1
  clear hn hsz hin
  go_enter Try.func65, Try.ntmps65
  go_wp2_with fail
  refine HS.out.mono ?_
  rintro e w2 ⟨v', rfl, hb2, ho2⟩
  have ho := by first | exact ho2 rfl | exact ho2 trivial
  have hcell2 := cell_later hb2 hcell
  have i2 := inRu_below HIN.out hb2
  rw [hgl] at ho
  obtain ⟨al, cl, rfl, hsome, -⟩ := owns_sl3 ho
  have HO := Lib.hid ho
  have HI2 := Lib.hid i2
  have HB2 := Lib.hid hb2
  clear ho2 ho i2 hb2 HS hcell
  go_wp2
  go_loopw [9, 10] (fun o k wr => Below w2.heap.size w2 wr ∧ ∃ kk : Nat, i ≤ kk ∧ (kk : Int) ≤ j ∧ k = .int .i64 kk ∧ wr.ownsRow w2.heap.size 5 1 o (ptX l i kk).length (u8s (ptX l i kk))) (fun _ k _ => (j - intOf k).toNat)
  case atStart =>
    refine ⟨(Below.refl _ _).alloc (Nat.le_refl _) _, i.toNat, by omega, by omega, by congr 1; omega, ?_⟩
    rw [show ((i.toNat : Nat) : Int) = i by omega, ptX_nil]
    exact World.ownsRow_made w2 #[] 0 (Nat.le_refl _) (by decide) (by simp)
  case round =>
    obtain ⟨hb3, kk, hk1, hk2, rfl, hown⟩ := hrel
    have hsz3 := hb3.size
    by_cases hlt : (kk : Int) < j
    · have hne : l.length ≠ 0 := by
        intro h
        have : l = [] := List.eq_nil_of_length_eq_zero h
        subst this
        have : lastI (gLn ([] : List Ru)) = 0 := rfl
        omega
      obtain ⟨gl, rfl⟩ := hsome hne
      have HLT := Lib.hid (HL.out gl cl _ wr kk (cell_later hb3 hcell2) (inRu_below HI2.out hb3) (owns_after HO.out hb3) (by omega) (by omega))
      have HS := Lib.hid (ptX_snoc (l := l) hk1 hi (show kk < (wd l).length by omega))
      have hlen : (ptX l i kk).length ≤ 1048576 := by unfold ptX; simp; omega
      simp only [Int.toNat_natCast] at HLT
      have HB3 := Lib.hid hb3
      clear hb3 hcell2
      generalize ptX l i kk = pl at *
      generalize (wd l).getD kk 0 = y at *
      go_wp2_with (first | (go_at_call 61; refine HLT.out.mono ?_; rintro e w3 ⟨rfl, rfl⟩) | (at_builtin; refine app_u8 rfl (.tmp 23) (.tmp 28) rfl w2.heap.size _ _ _ _ _ _ rfl hown rfl (by simp) (by omega) (by simpa using hsz3) ?_; intro v' w1 ho1 hb1 hsz1))
      go_roundw
      case rel => exact ⟨HB3.out.trans hb1, kk + 1, by omega, by omega, by go_num, owns8_snoc ho1 HS.out⟩
      case measure => first | (simp [intOf]; done) | (simp [intOf]; omega)
    · have ek : (kk : Int) = j := by omega
      have hcv := conv_any hown
      have HBF := Lib.hid (HB2.out.trans (hb3.mono HB2.out.size))
      rw [ek] at hcv
      clear hb3 hown hcell2
      go_wp2
      go_ret
      exact ⟨rfl, HBF.out⟩
end Go.Proofs.Ytmcfjjhflnhehaa
