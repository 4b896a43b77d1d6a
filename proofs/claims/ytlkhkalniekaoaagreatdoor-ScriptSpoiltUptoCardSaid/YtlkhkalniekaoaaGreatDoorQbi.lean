/- Parts of the proof: Wz, Vm. -/
import Derived.Lib.LaidU8
import Derived.LaidLaws
import Derived.Shelf.Vars
import Derived.Test.YtlkhkalniekaoaaGreatDoorRows
import Derived.Test.YtlkhkalniekaoaaGreatDoorQax
import Derived.Test.YtlkhkalniekaoaaGreatDoorQam
import Derived.Test.YtlkhkalniekaoaaGreatDoorQbb
import Derived.Test.YtlkhkalniekaoaaGreatDoorQak

set_option linter.unusedVariables false
set_option linter.unusedSimpArgs false

section
/- What the world has at the law's start. -/
namespace Go.Proofs.YtlkhkalniekaoaaGreatDoor
open Go.RowKit Go.Shelf Go.Sort Go.Lib Go.ChangeShapes

theorem var_flat {W : World} {n : String} {d : DataW Unit} (h : Lib.VarReads Tryz.prog W n d) {g t : Nat} (hg : Tryz.prog.globalNamed n = some g) (ht : (Tryz.prog.globals[g]?).map (·.type) = some t) {k : Nat} {l : List Go.X.V} (hd : Go.X.datumV Tryz.prog k t d = some l) :
    W.var? Tryz.prog n = some (Go.X.gamL ⟨fun g => g, fun _ => 0, fun _ _ => rfl⟩ l).toArray := by
  obtain ⟨g', t', cs, fuel, p, h1, h2, h3, h4⟩ := h
  obtain rfl := Option.some.inj (hg.symm.trans h1)
  obtain rfl := Option.some.inj (ht.symm.trans h2)
  have hp := Go.X.datumV_ok k fuel t d _ p l h4 hd
  rw [h3, (hp.1 ⟨fun g => g, fun _ => 0, fun _ _ => rfl⟩ (fun _ => True)).1]
theorem iface_cell {W : World} {n nm : String} {d : DataW Unit} (h : Lib.VarReads Tryz.prog W n (.iface nm d)) {g t : Nat} (hg : Tryz.prog.globalNamed n = some g) (ht : (Tryz.prog.globals[g]?).map (·.type) = some t) {ms : Array (String × TypeId)} (hi : Tryz.prog.underlying t = some (.interface ms)) :
    ∃ te pe, W.cell? ⟨g, 0, none⟩ = some (.iface te pe) := by
  obtain ⟨g', t', cs, fuel, p, h1, h2, h3, h4⟩ := h
  obtain rfl := Option.some.inj (hg.symm.trans h1)
  obtain rfl := Option.some.inj (ht.symm.trans h2)
  obtain ⟨f1, u, v, hcs, _⟩ := iface_of_trod hi h4
  refine ⟨u, v, ?_⟩
  rw [World.var?_cell hg h3 0, ← Array.getElem?_toList, hcs]
  first | done | rfl

section
variable {W : World} {ps : List MemPlace}
theorem start_most (hsh : W.ShapedOpen Tryz.prog) : ∃ m, W.cell? ⟨4, 0, none⟩ = some (.int .i64 m) :=
  cell_of_shapedOpen_int (P := Tryz.prog) (g := 4) (t := 3) (zero := #[.int .i64 0]) hsh (of_decide_eq_true (by kernel_rfl)) (by kernel_rfl) rfl (by kernel_rfl) (by kernel_rfl) Tryz.underlying3
end
variable {W : World} {l : List (String × DataW Unit)}
theorem start_space (h : Lib.VarReads Tryz.prog W "strings.asciiSpace" Rows.laid_strings_asciiSpace) : Lib.TabIs Tryz.prog W "strings.asciiSpace" .u8 Lib.asciiSpaceTab :=
  (var_flat h Go.X.laidN1 (by kernel_rfl) Go.X.laidD1).trans (by kernel_rfl)
theorem start_pow (h : Lib.VarReads Tryz.prog W "internal/strconv.uint64pow10" Rows.laid_internal_strconv_uint64pow10) : Lib.TabIs Tryz.prog W "internal/strconv.uint64pow10" .u64 Lib.pow10Tab :=
  (var_flat h Go.X.laidN5 (by kernel_rfl) Go.X.laidD5).trans (by kernel_rfl)
theorem start_forms (h : Lib.VarReads Tryz.prog W "paling/script.forms" Rows.laid_paling_script_forms) : W.rangeAt 2 0 formCells.toList := by
  have hv : W.var? Tryz.prog "paling/script.forms" = some formCells := (var_flat h Go.X.laidN2 (by kernel_rfl) Go.X.laidD2).trans (by kernel_rfl)
  intro j v hj
  rw [Nat.zero_add, World.var?_cell Go.X.laidN2 hv j, ← Array.getElem?_toList]
  exact hj
theorem start_utf (h3 : Lib.VarReads Tryz.prog W "unicode/utf8.first" Rows.laid_unicode_utf8_first) (h4 : Lib.VarReads Tryz.prog W "unicode/utf8.acceptRanges" Rows.laid_unicode_utf8_acceptRanges) : Lib.Utf8Tabs 6 7 W := by
  have v3 : W.var? Tryz.prog "unicode/utf8.first" = some ((List.range 256).map fun c => Value.int .u8 (Lib.firstT c)).toArray := (var_flat h3 Go.X.laidN6 (by kernel_rfl) Go.X.laidD6).trans (by kernel_rfl)
  have v4 : W.var? Tryz.prog "unicode/utf8.acceptRanges" = some (((List.range 16).map fun i => [Value.int .u8 (Lib.accLo i), Value.int .u8 (Lib.accHi i)]).flatten).toArray := (var_flat h4 Go.X.laidN7 (by kernel_rfl) Go.X.laidD7).trans (by kernel_rfl)
  refine ⟨fun c hc => ?_, fun i hi => ?_⟩
  · rw [World.var?_cell Go.X.laidN6 v3 c]
    simp [hc]
  · rw [World.var?_cell Go.X.laidN7 v4 (2 * i), World.var?_cell Go.X.laidN7 v4 (2 * i + 1)]
    have : i = 0 ∨ i = 1 ∨ i = 2 ∨ i = 3 ∨ i = 4 ∨ i = 5 ∨ i = 6 ∨ i = 7 ∨ i = 8 ∨ i = 9 ∨ i = 10 ∨ i = 11 ∨ i = 12 ∨ i = 13 ∨ i = 14 ∨ i = 15 := by omega
    rcases this with rfl | rfl | rfl | rfl | rfl | rfl | rfl | rfl | rfl | rfl | rfl | rfl | rfl | rfl | rfl | rfl <;> exact ⟨rfl, rfl⟩
theorem start_white (h : Lib.VarReads Tryz.prog W "unicode.White_Space" Rows.laid_unicode_White_Space) : Lib.WhiteTab 3 W :=
  whiteTab_of_reads (ρ := Tryz.lays199_ren) Tryz.lays199 ⟨by kernel_rfl, by kernel_rfl, by kernel_rfl, by kernel_rfl, by kernel_rfl, by kernel_rfl, by kernel_rfl, by kernel_rfl⟩ ((show (Rows.laid_unicode_White_Space : DataW Unit) = Lib.whiteData by kernel_rfl) ▸ h)
/-- The listed variables that the library reads. -/
structure Read (W : World) : Prop where
  errS : Lib.VarReads Tryz.prog W "strconv.ErrSyntax" Rows.laid_strconv_ErrSyntax
  errR : Lib.VarReads Tryz.prog W "strconv.ErrRange" Rows.laid_strconv_ErrRange
  space : Lib.VarReads Tryz.prog W "strings.asciiSpace" Rows.laid_strings_asciiSpace
  white : Lib.VarReads Tryz.prog W "unicode.White_Space" Rows.laid_unicode_White_Space
  first : Lib.VarReads Tryz.prog W "unicode/utf8.first" Rows.laid_unicode_utf8_first
  accept : Lib.VarReads Tryz.prog W "unicode/utf8.acceptRanges" Rows.laid_unicode_utf8_acceptRanges
  pow : Lib.VarReads Tryz.prog W "internal/strconv.uint64pow10" Rows.laid_internal_strconv_uint64pow10
theorem start_calm (hsh : W.ShapedOpen Tryz.prog) (R : Read W) : Calm W where
  most := start_most hsh
  errS := iface_cell R.errS (g := 9) (by kernel_rfl) (t := 57) (by kernel_rfl) Tryz.underlying57
  errR := iface_cell R.errR (g := 10) (by kernel_rfl) (t := 57) (by kernel_rfl) Tryz.underlying57
  space := start_space R.space
  white := start_white R.white
  utf := start_utf R.first R.accept
  pow := start_pow R.pow
end Go.Proofs.YtlkhkalniekaoaaGreatDoor
end

section
/- The reference's table of kinds, at the start. -/
namespace Go.Proofs.YtlkhkalniekaoaaGreatDoor
open Go.RowKit Go.Shelf Go.Sort Go.Lib

noncomputable def formV : List (List Go.X.V) := formTab.map fun p => [.str p.1.data.toList.length (Go.X.packL p.1.data.toList), .int .i64 p.2]
theorem formV_len : ∀ l ∈ formV, l.length = 2 := by
  intro l hl
  unfold formV at hl
  obtain ⟨p, _, rfl⟩ := List.mem_map.1 hl
  rfl
theorem start_forms21 {W : World} (h : Lib.VarReads Tryz.prog W "paling/palinglaw21.forms" Rows.laid_paling_palinglaw21_forms) : Forms21 W := by
  obtain ⟨R, o, c, h1, h2⟩ := Go.X.slice_cells (e := 62) h (g := 0) (by kernel_rfl) (t := 61) (by kernel_rfl) Tryz.underlying61 (c := 2) (by kernel_rfl) (by decide) (by decide) (k := 6) (ls := formV) (by kernel_rfl) formV_len
  refine ⟨R, o, c, h1, fun k W' M hk => ?_⟩
  have hv : formV[k]? = some [.str W'.data.toList.length (Go.X.packL W'.data.toList), .int .i64 M] := by
    unfold formV
    rw [List.getElem?_map, hk]
    first | done | rfl
  have ht := Go.X.toBA_pack W'
  have a0 := h2 k 0 _ _ hv rfl
  have a1 := h2 k 1 _ _ hv rfl
  simp only [Go.X.gam, ht, Nat.add_zero] at a0 a1
  exact ⟨a0, a1⟩
end Go.Proofs.YtlkhkalniekaoaaGreatDoor
end
