/- Parts of the proof: Vk. -/
import Derived.Lib.SlicesS
import Derived.Test.YtlkhkalniekaoaaGreatDoorQbm
import Derived.Test.YtlkhkalniekaoaaGreatDoorQbd

set_option linter.unusedVariables false
set_option linter.unusedSimpArgs false

section
/- The reference's Parse: parts. -/
namespace Go.Proofs.YtlkhkalniekaoaaGreatDoor
open Go.RowKit Go.Shelf Go.Sort Go.Lib

theorem fieldsGoD_full : ∀ (f : Nat) (cur l : List UInt8), ∀ x ∈ Lib.fieldsGoD f cur l, x ≠ []
  | 0, cur, l, x, hx => by
    unfold Lib.fieldsGoD at hx
    split at hx
    · simp at hx
    · rename_i hc
      simp at hx
      subst hx
      exact hc
  | f + 1, cur, l, x, hx => by
    unfold Lib.fieldsGoD at hx
    split at hx
    · split at hx
      · simp at hx
      · rename_i hc
        simp at hx
        subst hx
        exact hc
    · split at hx
      · rw [List.mem_append] at hx
        rcases hx with hx | hx
        · split at hx
          · simp at hx
          · rename_i hc
            simp at hx
            subst hx
            exact hc
        · exact fieldsGoD_full f _ _ x hx
      · exact fieldsGoD_full f _ _ x hx
theorem words_full (s : ByteArray) : ∀ x ∈ wordsOf s, 0 < x.size := by
  intro x hx
  simp only [wordsOf, List.mem_map] at hx
  obtain ⟨y, hy, rfl⟩ := hx
  have := fieldsGoD_full _ _ _ y hy
  rw [Lib.size_eq]
  simpa [List.length_pos_iff] using this
theorem blank_words (x : ByteArray) : blankS x = match wordsOf x with | [] => true | y :: _ => decide (y.data.toList.head? = some 59) := by
  have h := blank_rests x
  unfold blankS
  rw [← h]
  unfold Go.X.restsB wordsOf
  cases Lib.fieldsD x.data.toList with
  | nil => rfl
  | cons y r => rfl
theorem fields_any (x : ByteArray) (hx : x.size ≤ 1000000) (w0 : World) (hc0 : Calm w0) :
    Calls Tryz.prog 27 #[.string x] w0 fun e w' => ∃ A, e = .returned (.slice (some ⟨A, 0, none⟩) (wordsOf x).length (wordsOf x).length) ∧ Later w0 w' ∧ w0.heap.size ≤ A ∧
      ∀ (j : Nat) (y : ByteArray), (wordsOf x)[j]? = some y → w'.cell? ⟨A, j, none⟩ = some (.string y) := by
  have hwl : (Lib.fieldsD x.data.toList).length = (wordsOf x).length := by simp [wordsOf]
  have hwm : ((Lib.fieldsD x.data.toList).map fun x => Value.string ⟨x.toArray⟩) = (wordsOf x).map Value.string := by simp [wordsOf]
  refine (Tryz.strings_Fields_any x w0 (by omega) hc0.space hc0.white).mono ?_
  rintro e w' ⟨A, rfl, hA, hown, hbel⟩
  rw [hwl, hwm] at hown
  rw [hwl]
  refine ⟨A, rfl, hbel, hA, fun j y hj => ?_⟩
  have hjl : j < (wordsOf x).length := (List.getElem?_eq_some_iff.1 hj).1
  exact (hown.cellAt j (by omega)).trans (by rw [List.getElem?_map, hj]; first | done | rfl)
theorem line21_err (ws : List ByteArray) (w : World) (hf : Forms21 w) (A : Nat) (hcells : ∀ (j : Nat) (x : ByteArray), ws[j]? = some x → w.cell? ⟨A, j, none⟩ = some (.string x)) (hne : ws ≠ []) (hlen : ws.length ≤ 1000000) (hws : ∀ x ∈ ws, x.size ≤ 1000000 ∧ 0 < x.size) (er : Int) (h : lineR ws = .error er) :
    Calls Tryz.prog 28 #[.slice (some ⟨A, 0, none⟩) ws.length ws.length] w fun e w' => er ≠ 0 ∧ ∃ kk p1 n1 c1 p2 n2 c2 src, e = .returned (.tuple #[.agg #[.int .i64 kk, .slice p1 n1 c1, .slice p2 n2 c2, .string src], .int .i64 er]) ∧ Later w w' := by
  refine (line21_any ws w hf A hcells hne hlen hws).mono ?_
  rintro e w' ⟨kk, p1, n1, c1, p2, n2, c2, src, er', rfl, hl, ⟨y, hy, rfl, hy0⟩ | ⟨c, hc', _⟩⟩
  · rw [h] at hy
    cases hy
    exact ⟨hy0, kk, p1, n1, c1, p2, n2, c2, src, rfl, hl⟩
  · rw [h] at hc'; cases hc'
theorem line21_ok (ws : List ByteArray) (w : World) (hf : Forms21 w) (A : Nat) (hcells : ∀ (j : Nat) (x : ByteArray), ws[j]? = some x → w.cell? ⟨A, j, none⟩ = some (.string x)) (hne : ws ≠ []) (hlen : ws.length ≤ 1000000) (hws : ∀ x ∈ ws, x.size ≤ 1000000 ∧ 0 < x.size) (c : Cmd) (h : lineR ws = .ok c) :
    Calls Tryz.prog 28 #[.slice (some ⟨A, 0, none⟩) ws.length ws.length] w fun e w' => ∃ p1 n1 c1 p2 n2 c2, e = .returned (.tuple #[.agg #[.int .i64 c.k, .slice p1 n1 c1, .slice p2 n2 c2, .string c.src], .int .i64 0]) ∧ Later w w' ∧
      w'.ownsRow w.heap.size 3 1 (.slice p1 n1 c1) c.ns.length (c.ns.map (Value.int .i64)) ∧ w'.ownsRow w.heap.size 49 5 (.slice p2 n2 c2) c.al.length (argCells c.al) := by
  refine (line21_any ws w hf A hcells hne hlen hws).mono ?_
  rintro e w' ⟨kk, p1, n1, c1, p2, n2, c2, src, er', rfl, hl, ⟨y, hy, rfl, hy0⟩ | ⟨d, hd, rfl, rfl, rfl, h1, h2⟩⟩
  · rw [h] at hy; cases hy
  · rw [h] at hd
    cases hd
    exact ⟨p1, n1, c1, p2, n2, c2, rfl, hl, h1, h2⟩

theorem dot_eq (y : ByteArray) : (y.toList == [46]) = decide (y = ⟨#[46]⟩) := by
  have := toList_eq y ⟨#[46]⟩
  rw [← this, Lib.toList_data ⟨#[46]⟩]
theorem dotN_len (ls : List ByteArray) : dotN ls ≤ ls.length := (List.takeWhile_sublist _).length_le
theorem dot_index : ∀ (ls : List ByteArray) (i : Nat), Lib.idxFromS ls ⟨#[46]⟩ i = if dotN ls = ls.length then -1 else ((i + dotN ls : Nat) : Int)
  | [], i => rfl
  | y :: r, i => by
    have ih := dot_index r (i + 1)
    unfold Lib.idxFromS dotN
    by_cases h : y = ⟨#[46]⟩
    · rw [if_pos h, List.takeWhile_cons_of_neg (by rw [dot_eq]; simp [h])]
      simp
    · rw [if_neg h, List.takeWhile_cons_of_pos (by rw [dot_eq]; simp [h]), ih]
      unfold dotN
      simp only [List.length_cons]
      by_cases h2 : (r.takeWhile fun x => !(x.toList == [46])).length = r.length
      · rw [if_pos h2, if_pos (by omega)]
      · rw [if_neg h2, if_neg (by omega)]
        congr 1
        omega
/-- slices.Index of a point, in the lines behind one. -/
theorem point_any (b off c : Nat) (ls : List ByteArray) (w : World) (hl : ls.length ≤ 1000000) (hc : ∀ (j : Nat) (y : ByteArray), ls[j]? = some y → w.cell? ⟨b, off + j, none⟩ = some (.string y)) (a : Option Addr) (ha : 0 < ls.length → a = some ⟨b, off, none⟩) :
    Calls Tryz.prog 29 #[.slice a ls.length c, .string ⟨#[46]⟩] w fun e w' => e = .returned (.int .i64 (if dotN ls = ls.length then -1 else ((dotN ls : Nat) : Int))) ∧ w' = w := by
  have hi : Lib.idxOfS ls ⟨#[46]⟩ = if dotN ls = ls.length then -1 else ((dotN ls : Nat) : Int) := by
    unfold Lib.idxOfS
    rw [dot_index, Nat.zero_add]
  cases ls with
  | nil =>
    have h := Tryz.slices_Index_string_empty a c ⟨#[46]⟩ w
    rw [hi] at h
    exact h
  | cons y r =>
    have h := Tryz.slices_Index_string b off (y :: r).length c (y :: r) ⟨#[46]⟩ w (Nat.le_refl _) (by omega) (fun j hj => by
      rw [List.getD_eq_getElem?_getD, List.getElem?_eq_getElem hj]
      exact hc j _ (List.getElem?_eq_getElem hj))
    rw [List.take_length, hi] at h
    rw [ha (by simp)]
    exact h
end Go.Proofs.YtlkhkalniekaoaaGreatDoor
end
