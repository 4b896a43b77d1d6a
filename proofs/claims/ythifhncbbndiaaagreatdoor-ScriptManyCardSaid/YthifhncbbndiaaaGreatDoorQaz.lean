/- Parts of the proof: Wz. -/
import Derived.Lib.LaidU8
import Derived.LaidLaws
import Derived.Shelf.Vars
import Derived.Test.YthifhncbbndiaaaGreatDoorQaw
import Derived.Test.YthifhncbbndiaaaGreatDoorQal

set_option linter.unusedVariables false
set_option linter.unusedSimpArgs false

section
/- What the world has at the law's start. -/
namespace Go.Proofs.YthifhncbbndiaaaGreatDoor
open Go.RowKit Go.Shelf Go.Sort Go.Lib Go.ChangeShapes

theorem var_flat {W : World} {n : String} {d : DataW Unit} (h : Lib.VarReads Tryz.prog W n d) {g t : Nat} (hg : Tryz.prog.globalNamed n = some g) (ht : (Tryz.prog.globals[g]?).map (·.type) = some t) {k : Nat} {l : List Go.X.V} (hd : Go.X.datumV Tryz.prog k t d = some l) :
    W.var? Tryz.prog n = some (Go.X.gamL ⟨fun g => g, fun _ => 0, fun _ _ => rfl⟩ l).toArray := by
  obtain ⟨g', t', cs, fuel, p, h1, h2, h3, h4⟩ := h
  obtain rfl := Option.some.inj (hg.symm.trans h1)
  obtain rfl := Option.some.inj (ht.symm.trans h2)
  have hp := Go.X.datumV_ok k fuel t d _ p l h4 hd
  rw [h3, (hp.1 ⟨fun g => g, fun _ => 0, fun _ _ => rfl⟩ (fun _ => True)).1]
theorem iface_cell {W : World} {n nm : String} {d : DataW Unit} (h : Lib.VarReads Tryz.prog W n (.iface nm d)) {g t : Nat} (hg : Tryz.prog.globalNamed n = some g) (ht : (Tryz.prog.globals[g]?).map (·.type) = some t) {ms : Array (String × TypeId)} (hi : Tryz.prog.underlying t = some (.interface ms)) :
    ∃ te pe, W.cell? ⟨g, 0, none⟩ = some (.iface te pe) := by
  obtain ⟨g', t', cs, fuel, p, h1, h2, h3, h4⟩ := h
  obtain rfl := Option.some.inj (hg.symm.trans h1)
  obtain rfl := Option.some.inj (ht.symm.trans h2)
  obtain ⟨f1, u, v, hcs, _⟩ := iface_of_trod hi h4
  refine ⟨u, v, ?_⟩
  rw [World.var?_cell hg h3 0, ← Array.getElem?_toList, hcs]
  first | done | rfl

section
variable {W : World} {ps : List MemPlace}
theorem start_most (hsh : W.ShapedOpen Tryz.prog) : ∃ m, W.cell? ⟨3, 0, none⟩ = some (.int .i64 m) :=
  cell_of_shapedOpen_int (P := Tryz.prog) (g := 3) (t := 3) (zero := #[.int .i64 0]) hsh (of_decide_eq_true (by kernel_rfl)) (by kernel_rfl) rfl (by kernel_rfl) (by kernel_rfl) Tryz.underlying3
end
variable {W : World} {l : List (String × DataW Unit)}
theorem start_space (h : Lib.VarReads Tryz.prog W "strings.asciiSpace" Rows.laid_strings_asciiSpace) : Lib.TabIs Tryz.prog W "strings.asciiSpace" .u8 Lib.asciiSpaceTab :=
  (var_flat h Go.X.laidN0 (by kernel_rfl) Go.X.laidD0).trans (by kernel_rfl)
theorem start_pow (h : Lib.VarReads Tryz.prog W "internal/strconv.uint64pow10" Rows.laid_internal_strconv_uint64pow10) : Lib.TabIs Tryz.prog W "internal/strconv.uint64pow10" .u64 Lib.pow10Tab :=
  (var_flat h Go.X.laidN11 (by kernel_rfl) Go.X.laidD11).trans (by kernel_rfl)
theorem start_forms (h : Lib.VarReads Tryz.prog W "paling/script.forms" Rows.laid_paling_script_forms) : W.rangeAt 1 0 formCells.toList := by
  have hv : W.var? Tryz.prog "paling/script.forms" = some formCells := (var_flat h Go.X.laidN1 (by kernel_rfl) Go.X.laidD1).trans (by kernel_rfl)
  intro j v hj
  rw [Nat.zero_add, World.var?_cell Go.X.laidN1 hv j, ← Array.getElem?_toList]
  exact hj
theorem start_utf (h3 : Lib.VarReads Tryz.prog W "unicode/utf8.first" Rows.laid_unicode_utf8_first) (h4 : Lib.VarReads Tryz.prog W "unicode/utf8.acceptRanges" Rows.laid_unicode_utf8_acceptRanges) : Lib.Utf8Tabs 4 5 W := by
  have v3 : W.var? Tryz.prog "unicode/utf8.first" = some ((List.range 256).map fun c => Value.int .u8 (Lib.firstT c)).toArray := (var_flat h3 Go.X.laidN4 (by kernel_rfl) Go.X.laidD4).trans (by kernel_rfl)
  have v4 : W.var? Tryz.prog "unicode/utf8.acceptRanges" = some (((List.range 16).map fun i => [Value.int .u8 (Lib.accLo i), Value.int .u8 (Lib.accHi i)]).flatten).toArray := (var_flat h4 Go.X.laidN5 (by kernel_rfl) Go.X.laidD5).trans (by kernel_rfl)
  refine ⟨fun c hc => ?_, fun i hi => ?_⟩
  · rw [World.var?_cell Go.X.laidN4 v3 c]
    simp [hc]
  · rw [World.var?_cell Go.X.laidN5 v4 (2 * i), World.var?_cell Go.X.laidN5 v4 (2 * i + 1)]
    have : i = 0 ∨ i = 1 ∨ i = 2 ∨ i = 3 ∨ i = 4 ∨ i = 5 ∨ i = 6 ∨ i = 7 ∨ i = 8 ∨ i = 9 ∨ i = 10 ∨ i = 11 ∨ i = 12 ∨ i = 13 ∨ i = 14 ∨ i = 15 := by omega
    rcases this with rfl | rfl | rfl | rfl | rfl | rfl | rfl | rfl | rfl | rfl | rfl | rfl | rfl | rfl | rfl | rfl <;> exact ⟨rfl, rfl⟩
theorem start_white (h : Lib.VarReads Tryz.prog W "unicode.White_Space" Rows.laid_unicode_White_Space) : Lib.WhiteTab 2 W :=
  whiteTab_of_reads (ρ := Tryz.lays199_ren) Tryz.lays199 ⟨by kernel_rfl, by kernel_rfl, by kernel_rfl, by kernel_rfl, by kernel_rfl, by kernel_rfl, by kernel_rfl, by kernel_rfl⟩ ((show (Rows.laid_unicode_White_Space : DataW Unit) = Lib.whiteData by kernel_rfl) ▸ h)
/-- The listed variables that the library reads. -/
structure Read (W : World) : Prop where
  errS : Lib.VarReads Tryz.prog W "strconv.ErrSyntax" Rows.laid_strconv_ErrSyntax
  errR : Lib.VarReads Tryz.prog W "strconv.ErrRange" Rows.laid_strconv_ErrRange
  space : Lib.VarReads Tryz.prog W "strings.asciiSpace" Rows.laid_strings_asciiSpace
  white : Lib.VarReads Tryz.prog W "unicode.White_Space" Rows.laid_unicode_White_Space
  first : Lib.VarReads Tryz.prog W "unicode/utf8.first" Rows.laid_unicode_utf8_first
  accept : Lib.VarReads Tryz.prog W "unicode/utf8.acceptRanges" Rows.laid_unicode_utf8_acceptRanges
  pow : Lib.VarReads Tryz.prog W "internal/strconv.uint64pow10" Rows.laid_internal_strconv_uint64pow10
theorem start_calm (hsh : W.ShapedOpen Tryz.prog) (R : Read W) : Calm W where
  most := start_most hsh
  errS := iface_cell R.errS (g := 7) (by kernel_rfl) (t := 56) (by kernel_rfl) Tryz.underlying56
  errR := iface_cell R.errR (g := 8) (by kernel_rfl) (t := 56) (by kernel_rfl) Tryz.underlying56
  space := start_space R.space
  white := start_white R.white
  utf := start_utf R.first R.accept
  pow := start_pow R.pow
end Go.Proofs.YthifhncbbndiaaaGreatDoor
end
