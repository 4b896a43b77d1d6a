/- Parts of the proof: Ue. -/
import Derived.Test.YtlkhkalniekaoaaGreatDoorQax

set_option linter.unusedVariables false
set_option linter.unusedSimpArgs false

section
/- (L).Line: what holds while it writes a line. -/
namespace Go.Proofs.YtlkhkalniekaoaaGreatDoor
open Go.RowKit Go.Shelf Go.Sort Go.Lib

theorem Four.put3 {w : World} {c : Nat} {x0 x1 x2 x3 : Value} (h : Four w c x0 x1 x2 x3) (y : Value) : Four (w.setCell ⟨c, 3, none⟩ y) c x0 x1 x2 y := by
  obtain ⟨⟨c0, c1, c2, c3⟩, f0, f1, f2, f3⟩ := h
  refine ⟨⟨?_, ?_, ?_, ?_⟩, ?_, ?_, ?_, ?_⟩
  · rw [World.cell?_setCell_other _ _ _ _ (by simp)]; exact c0
  · rw [World.cell?_setCell_other _ _ _ _ (by simp)]; exact c1
  · rw [World.cell?_setCell_other _ _ _ _ (by simp)]; exact c2
  · exact World.cell?_setCell_same _ _ _ c3
  · simpa using f0
  · simpa using f1
  · simpa using f2
  · simpa using f3
theorem Four.past {w : World} {c q : Nat} {x0 x1 x2 x3 : Value} (h : Four w c x0 x1 x2 x3) (hne : q ≠ c) (i : Nat) (y : Value) : Four (w.setCell ⟨q, i, none⟩ y) c x0 x1 x2 x3 := by
  obtain ⟨⟨c0, c1, c2, c3⟩, f0, f1, f2, f3⟩ := h
  refine ⟨⟨?_, ?_, ?_, ?_⟩, ?_, ?_, ?_, ?_⟩
  · rw [World.cell?_setCell_other _ _ _ _ (by simp [hne, Ne.symm hne])]; exact c0
  · rw [World.cell?_setCell_other _ _ _ _ (by simp [hne, Ne.symm hne])]; exact c1
  · rw [World.cell?_setCell_other _ _ _ _ (by simp [hne, Ne.symm hne])]; exact c2
  · rw [World.cell?_setCell_other _ _ _ _ (by simp [hne, Ne.symm hne])]; exact c3
  · simpa using f0
  · simpa using f1
  · simpa using f2
  · simpa using f3
theorem cell_past {w : World} {q i b o : Nat} {v y : Value} (h : w.cell? ⟨b, o, none⟩ = some v) (hne : q ≠ b) : (w.setCell ⟨q, i, none⟩ y).cell? ⟨b, o, none⟩ = some v := by
  rw [World.cell?_setCell_other _ _ _ _ (by simp [hne, Ne.symm hne])]
  exact h

def numCells (ns : List Nat) : List Value := ns.map fun (n : Nat) => Value.int .i64 (n : Int)
/-- While Line writes: W its start; blocks: pl the line, pr the result, pc the command, pg the gap, ps the text, pn its two numbers; its rows lie behind B. -/
structure LineSt (W w : World) (B pl pr pc pg ps pn : Nat) (l : LM) (k : Nat) (ns : List Nat) (nv : Value) (al : List Arg) (av : Value) (src s g : ByteArray) : Prop where
  later : Later W w
  size : B ≤ w.heap.size
  lo : W.heap.size ≤ pl ∧ pl < pr ∧ pr < pc ∧ pc < pg ∧ pg < ps ∧ ps < pn ∧ pn < B
  lc : ∀ j u, l.cells[j]? = some u → w.cell? ⟨pl, j, none⟩ = some u
  res : Four w pr (.int .i64 0) (.slice none 0 0) (.slice none 0 0) (.string ⟨#[]⟩)
  four : Four w pc (.int .i64 k) nv av (.string src)
  gap : w.cell? ⟨pg, 0, none⟩ = some (.string g)
  str : w.cell? ⟨ps, 0, none⟩ = some (.string s)
  strf : w.frozen? ⟨ps, 0, none⟩ = false
  two : w.cell? ⟨pn, 0, none⟩ = some (.int .u32 l.a) ∧ w.cell? ⟨pn, 1, none⟩ = some (.int .u32 l.b)
  nums : w.ownsRow B 3 1 nv ns.length (numCells ns)
  args : w.ownsRow B 49 5 av al.length (argCells al)
section
variable {W w : World} {B pl pr pc pg ps pn : Nat} {l : LM} {k : Nat} {ns : List Nat} {nv : Value} {al : List Arg} {av : Value} {src s g : ByteArray}
theorem LineSt.keep (h : LineSt W w B pl pr pc pg ps pn l k ns nv al av src s g) {w' : World} (hb : Later w w') : LineSt W w' B pl pr pc pg ps pn l k ns nv al av src s g where
  later := h.later.step hb
  size := Nat.le_trans h.size hb.size
  lo := h.lo
  lc := fun j u hj => hb.cellOf (h.lc j u hj)
  res := h.res.later hb (by have := h.lo; have := h.size; omega)
  four := h.four.later hb (by have := h.lo; have := h.size; omega)
  gap := hb.cellOf h.gap
  str := hb.cellOf h.str
  strf := (hb.frozen (by have := h.lo; have := h.size; show ps < _; omega)).trans h.strf
  two := ⟨hb.cellOf h.two.1, hb.cellOf h.two.2⟩
  nums := owned_later h.nums hb
  args := owned_later h.args hb
theorem LineSt.putS (h : LineSt W w B pl pr pc pg ps pn l k ns nv al av src s g) (t : ByteArray) : LineSt W (w.setCell ⟨ps, 0, none⟩ (.string t)) B pl pr pc pg ps pn l k ns nv al av src t g where
  later := Below.setCell h.later (by have := h.lo; show W.heap.size ≤ ps; omega) _
  size := by simpa [World.setCell] using h.size
  lo := h.lo
  lc := fun j u hj => cell_past (h.lc j u hj) (by have := h.lo; omega)
  res := h.res.past (by have := h.lo; omega) 0 _
  four := h.four.past (by have := h.lo; omega) 0 _
  gap := cell_past h.gap (by have := h.lo; omega)
  str := World.cell?_setCell_same _ _ _ h.str
  strf := by simpa using h.strf
  two := ⟨cell_past h.two.1 (by have := h.lo; omega), cell_past h.two.2 (by have := h.lo; omega)⟩
  nums := ownsRow_setCell_below h.nums (by have := h.lo; show ps < B; omega) _
  args := ownsRow_setCell_below h.args (by have := h.lo; show ps < B; omega) _
theorem LineSt.putSrc (h : LineSt W w B pl pr pc pg ps pn l k ns nv al av src s g) (t : ByteArray) : LineSt W (w.setCell ⟨pc, 3, none⟩ (.string t)) B pl pr pc pg ps pn l k ns nv al av t s g where
  later := Below.setCell h.later (by have := h.lo; show W.heap.size ≤ pc; omega) _
  size := by simpa [World.setCell] using h.size
  lo := h.lo
  lc := fun j u hj => cell_past (h.lc j u hj) (by have := h.lo; omega)
  res := h.res.past (by have := h.lo; omega) 3 _
  four := h.four.put3 _
  gap := cell_past h.gap (by have := h.lo; omega)
  str := cell_past h.str (by have := h.lo; omega)
  strf := by simpa using h.strf
  two := ⟨cell_past h.two.1 (by have := h.lo; omega), cell_past h.two.2 (by have := h.lo; omega)⟩
  nums := ownsRow_setCell_below h.nums (by have := h.lo; show pc < B; omega) _
  args := ownsRow_setCell_below h.args (by have := h.lo; show pc < B; omega) _
theorem row_not {w : World} {B q : Nat} {e : TypeId} {sz n : Nat} {v : Value} {xs : List Value} (h : w.ownsRow B e sz v n xs) (hq : q < B) : some q ≠ v.ownBlock := fun e => by
  have := own_block h q e.symm
  omega
/-- An append to a row of its own. -/
theorem LineSt.grown (h : LineSt W w B pl pr pc pg ps pn l k ns nv al av src s g) {w' : World} {v : Value} {e : TypeId} {sz n : Nat} {xs : List Value} (ho : w.ownsRow B e sz v n xs) (hg : w.grownBy w' v.ownBlock) :
    Later W w' ∧ B ≤ w'.heap.size ∧ (∀ j u, l.cells[j]? = some u → w'.cell? ⟨pl, j, none⟩ = some u) ∧ Four w' pr (.int .i64 0) (.slice none 0 0) (.slice none 0 0) (.string ⟨#[]⟩) ∧ Four w' pc (.int .i64 k) nv av (.string src) ∧ w'.cell? ⟨pg, 0, none⟩ = some (.string g) ∧
    w'.cell? ⟨ps, 0, none⟩ = some (.string s) ∧ w'.frozen? ⟨ps, 0, none⟩ = false ∧ w'.cell? ⟨pn, 0, none⟩ = some (.int .u32 l.a) ∧ w'.cell? ⟨pn, 1, none⟩ = some (.int .u32 l.b) := by
  have hlo := h.lo
  have hsz := h.size
  have hgs := hg.size
  have nn : ∀ q, q < B → some q ≠ v.ownBlock := fun q hq => row_not ho hq
  refine ⟨h.later.grown hg (by omega) (fun q hq => by have := own_block ho q hq; omega), by omega, fun j u hj => hg.cell (h.lc j u hj) (nn pl (by omega)), h.res.only hg (nn pr (by omega)), h.four.only hg (nn pc (by omega)),
    hg.cell h.gap (nn pg (by omega)), hg.cell h.str (nn ps (by omega)), ?_, hg.cell h.two.1 (nn pn (by omega)), hg.cell h.two.2 (nn pn (by omega))⟩
  exact (World.frozen?_of_block (a := ⟨ps, 0, none⟩) (hg.block ps (by omega) (nn ps (by omega)))).trans h.strf
/-- A value more. -/
theorem LineSt.addArg (h : LineSt W w B pl pr pc pg ps pn l k ns nv al av src s g) {w' : World} {av' : Value} (x : Arg) (hg : w.grownBy w' av.ownBlock) (ho : w'.ownsRow B 49 5 av' (al.length + 1) (argCells al ++ x.cells)) :
    LineSt W (w'.setCell ⟨pc, 2, none⟩ av') B pl pr pc pg ps pn l k ns nv (al ++ [x]) av' src s g := by
  obtain ⟨g1, g2, g3, g4, g5, g6, g7, g8, g9, g10⟩ := h.grown h.args hg
  have hlo := h.lo
  exact {
    later := Below.setCell g1 (by show W.heap.size ≤ pc; omega) _
    size := by simpa [World.setCell] using g2
    lo := h.lo
    lc := fun j u hj => cell_past (g3 j u hj) (by omega)
    res := g4.past (by omega) 2 _
    four := g5.put2 _
    gap := cell_past g6 (by omega)
    str := cell_past g7 (by omega)
    strf := by simpa using g8
    two := ⟨cell_past g9 (by omega), cell_past g10 (by omega)⟩
    nums := ownsRow_setCell_below (World.ownsRow.kept h.nums hg (own_apart h.nums h.args (by decide))) (by show pc < B; omega) _
    args := by
      rw [argCells_snoc, List.length_append]
      exact ownsRow_setCell_below ho (by show pc < B; omega) _ }
/-- A number more. -/
theorem LineSt.addNum (h : LineSt W w B pl pr pc pg ps pn l k ns nv al av src s g) {w' : World} {nv' : Value} (n : Nat) (hg : w.grownBy w' nv.ownBlock) (ho : w'.ownsRow B 3 1 nv' (ns.length + 1) (numCells ns ++ [.int .i64 n])) :
    LineSt W (w'.setCell ⟨pc, 1, none⟩ nv') B pl pr pc pg ps pn l k (ns ++ [n]) nv' al av src s g := by
  obtain ⟨g1, g2, g3, g4, g5, g6, g7, g8, g9, g10⟩ := h.grown h.nums hg
  have hlo := h.lo
  exact {
    later := Below.setCell g1 (by show W.heap.size ≤ pc; omega) _
    size := by simpa [World.setCell] using g2
    lo := h.lo
    lc := fun j u hj => cell_past (g3 j u hj) (by omega)
    res := g4.past (by omega) 1 _
    four := g5.put1 _
    gap := cell_past g6 (by omega)
    str := cell_past g7 (by omega)
    strf := by simpa using g8
    two := ⟨cell_past g9 (by omega), cell_past g10 (by omega)⟩
    nums := by
      have e : numCells (ns ++ [n]) = numCells ns ++ [.int .i64 n] := by simp [numCells]
      rw [e, List.length_append]
      exact ownsRow_setCell_below ho (by show pc < B; omega) _
    args := ownsRow_setCell_below (World.ownsRow.kept h.args hg (own_apart h.args h.nums (by decide))) (by show pc < B; omega) _ }
end
end Go.Proofs.YtlkhkalniekaoaaGreatDoor
end
