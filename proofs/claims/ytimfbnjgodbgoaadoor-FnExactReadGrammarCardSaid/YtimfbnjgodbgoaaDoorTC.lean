/- ReadGrammar: strings.Split, strings.Cut and strconv.ParseInt; what stands through the call. -/
import Derived.Test.YtimfbnjgodbgoaaDoorTB
import Derived.Test.YtimfbnjgodbgoaaDoorShelf2
import Derived.Test.YtimfbnjgodbgoaaDoorUR
namespace Go.Proofs.YtimfbnjgodbgoaaDoor
open Go.ChangeShapes Go.WideShapes Go.RowKit
set_option linter.unusedVariables false
set_option linter.unusedSimpArgs false
set_option maxHeartbeats 1000000
set_option maxRecDepth 100000
/-- the library's variables, and the table of powers -/
def RgW (w : World) : Prop := (∃ m, w.cell? ⟨0, 0, none⟩ = some (.int .i64 m)) ∧ (∃ e, w.cell? ⟨1, 0, none⟩ = some e ∧ (e = .nilIface ∨ ∃ te pe, e = .iface te pe)) ∧ (∃ e, w.cell? ⟨2, 0, none⟩ = some e ∧ (e = .nilIface ∨ ∃ te pe, e = .iface te pe)) ∧ PowT w
theorem RgW.later {w w' : World} (h : RgW w) (hb : Below w.heap.size w w') : RgW w' := by
  obtain ⟨⟨m, h1⟩, ⟨e, h2, h3⟩, ⟨e2, h4, h5⟩, h6⟩ := h
  exact ⟨⟨m, cell_later hb h1⟩, ⟨e, cell_later hb h2, h3⟩, ⟨e2, cell_later hb h4, h5⟩, h6.later hb⟩
theorem i_split (t : ByteArray) (w : World) (h : RgW w) (ht : t.size ≤ 20000) :
    Calls Tryd.prog 27 #[.string t, .string ⟨#[10]⟩] w fun e w' => e = .returned (.slice (some ⟨w.heap.size, 0, none⟩) (spl 10 t.data.toList).length (spl 10 t.data.toList).length) ∧ w' = w.alloc (.cells ((linS 10 t).map Value.string).toArray 9) := by
  obtain ⟨⟨m, h1⟩, -⟩ := h
  refine (Tryd.strings_Split t ⟨#[10]⟩ m w (by omega) h1 (by decide)).mono ?_
  rintro e w' ⟨rfl, rfl⟩
  rw [countB_lin, splitB_lin]
  exact ⟨rfl, rfl⟩
theorem i_cut (a : ByteArray) (w : World) (h : RgW w) (ht : a.size ≤ 20000) :
    Calls Tryd.prog 28 #[.string a, .string ⟨#[32]⟩] w fun e w' => ∃ (x y : ByteArray) (b : Bool), e = .returned (.tuple #[.string x, .string y, .bool b]) ∧ x.size ≤ 20000 ∧ y.size ≤ 20000 ∧ (b = false → (32 : UInt8) ∉ a.data.toList) ∧ (b = true → a.data.toList = x.data.toList ++ 32 :: y.data.toList ∧ (32 : UInt8) ∉ x.data.toList) ∧ Below w.heap.size w w' := by
  obtain ⟨⟨m, h1⟩, -⟩ := h
  have hz : a.data.toList.length = a.size := by rw [Array.length_toList]; rfl
  refine (Tryd.strings_Cut a ⟨#[32]⟩ m w (by omega) h1).mono ?_
  rintro e w' ⟨rfl, n, rfl⟩
  have e32 : (ByteArray.mk #[32]).data.toList = [32] := rfl
  rw [e32]
  rcases blank_cases a.data.toList with hn | ⟨x, y, hxy, hx⟩
  · rw [cut_none hn]
    refine ⟨a, ⟨#[]⟩, false, rfl, ht, by decide, ?_, ?_, below_drewN (Below.refl _ _) n⟩
    · intro _; exact hn
    · intro h; cases h
  · rw [hxy, List.length_append, List.length_cons] at hz
    rw [hxy, cut_some hx]
    refine ⟨⟨x.toArray⟩, ⟨y.toArray⟩, true, rfl, ?_, ?_, ?_, ?_, below_drewN (Below.refl _ _) n⟩
    · show x.toArray.size ≤ _
      rw [List.size_toArray]; omega
    · show y.toArray.size ≤ _
      rw [List.size_toArray]; omega
    · intro h; cases h
    · intro _; exact ⟨rfl, hx⟩
theorem i_parse (s : ByteArray) (w : World) (h : RgW w) (ht : s.size ≤ 20000) :
    Calls Tryd.prog 29 #[.string s, .int .i64 10, .int .i64 64] w fun e w' => ∃ (n : Int) (er : Value), e = .returned (.tuple #[.int .i64 n, er]) ∧ (∀ m, nuF s.data.toList = some m → n = (m : Int)) ∧ Below w.heap.size w w' := by
  obtain ⟨-, ⟨e1, h1, h2⟩, ⟨e2, h3, h4⟩, -⟩ := h
  have hL := Tryd.laysC174
  cases hp : Lib.parseIntB 64 s.data.toList
  case ok v =>
    refine (Any.strconv_ParseInt_10_at64_ok hL s (by omega) v hp w).mono ?_
    rintro e w' ⟨rfl, hw⟩
    refine ⟨v, _, rfl, fun m hm => ?_, ?_⟩
    · rw [par_nuF hm] at hp
      injection hp with hp
      exact hp.symm
    · rcases hw with rfl | ⟨t, rfl⟩
      · exact Below.refl _ _
      · exact Lib.bytesWorld_below _ _ _
  case range =>
    refine (Any.strconv_ParseInt_10_at64_range hL s (by omega) hp e2 w h3 h4).mono ?_
    rintro e w' ⟨N, rfl, -, -, hb⟩
    exact ⟨_, _, rfl, (fun m hm => by rw [par_nuF hm] at hp; cases hp), hb⟩
  all_goals
    refine (Any.strconv_ParseInt_10_at64_syntax hL s (by omega) hp e1 w h1 h2).mono ?_
    rintro e w' ⟨N, rfl, -, -, hb⟩
    exact ⟨_, _, rfl, (fun m hm => by rw [par_nuF hm] at hp; cases hp), hb⟩
end Go.Proofs.YtimfbnjgodbgoaaDoor
