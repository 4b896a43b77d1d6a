/- Parts of the proof: Yi. -/
import Derived.Test.YtlkhkalniekaoaaGreatDoorQbc
import Derived.Test.YtlkhkalniekaoaaGreatDoorQbd

set_option linter.unusedVariables false
set_option linter.unusedSimpArgs false

section
/- ScriptLines, ScriptSpoilt: what their walks share. -/
namespace Go.Proofs.YtlkhkalniekaoaaGreatDoor
open Go.RowKit Go.Shelf Go.Sort Go.Lib

/-- strings.Join of a line's texts, nothing between. -/
theorem join_texts (w : World) (v : Value) (ts : List ByteArray) (h : SliceT w v ts) (hl : ts.length ≤ 1048576) (hz : (ts.map ByteArray.size).sum ≤ 1048576) :
    ∃ J : ByteArray, J.size = (ts.map ByteArray.size).sum ∧ ∀ w', Later w w' → Calls Tryz.prog 6 #[v, .string ⟨#[]⟩] w' fun e w'' => e = .returned (.string J) ∧ Later w' w'' := by
  obtain ⟨p, c, rfl, hc, hp⟩ := h
  have key : ((ts.map (·.data.toList)).flatten).length = (ts.map ByteArray.size).sum := by
    clear hl hz hc hp
    induction ts with
    | nil => rfl
    | cons t r ih =>
      rw [List.map_cons, List.flatten_cons, List.length_append, ih, List.map_cons, List.sum_cons, Lib.size_eq]
  refine ⟨⟨(Lib.join (ts.map (·.data.toList)) (⟨#[]⟩ : ByteArray).data.toList).toArray⟩, ?_, fun w' hl' => ?_⟩
  · rw [Lib.size_eq]
    show (Lib.join (ts.map (·.data.toList)) []).length = _
    rw [Go.X.join_bare, key]
  · by_cases hn : ts = []
    · subst hn
      refine (Tryz.strings_Join_none p c ⟨#[]⟩ w').mono ?_
      rintro e w'' ⟨rfl, rfl⟩
      exact ⟨rfl, Below.refl _ _⟩
    · obtain ⟨t, r, rfl⟩ := List.exists_cons_of_ne_nil hn
      obtain ⟨R, o, rfl, _⟩ := hp 0 t rfl
      refine (Tryz.strings_Join R o c (t :: r) ⟨#[]⟩ w' (fun j x hj => ?_) ?_ (by omega) hc ?_).mono ?_
      · obtain ⟨R', o', he, hcell⟩ := hp j x hj
        simp only [Option.some.injEq, Addr.mk.injEq] at he
        obtain ⟨rfl, rfl, _⟩ := he
        exact hl'.cellOf hcell
      · obtain ⟨R', o', he, hcell⟩ := hp 0 t rfl
        simp only [Option.some.injEq, Addr.mk.injEq] at he
        obtain ⟨rfl, rfl, _⟩ := he
        exact cell_lt (hl'.cellOf hcell)
      · show (Lib.join ((t :: r).map (·.data.toList)) []).length ≤ _
        rw [Go.X.join_bare, key]
        omega
      · rintro e w'' ⟨rfl, hb⟩
        exact ⟨rfl, hb⟩
theorem al1 {w : World} {a : Addr} {v : Value} (h : w.cell? a = some v) (o : Obj) : (w.alloc o).cell? a = some v := Later.cellOf ((Below.refl _ w).alloc (Nat.le_refl _) o) h
theorem own_lt {w : World} {B : Nat} {e : TypeId} {sz : Nat} {v : Value} {n : Nat} {xs : List Value} (h : w.ownsRow B e sz v n xs) : ∀ q, v.ownBlock = some q → q < w.heap.size := by
  intro q hq
  rcases h.2 with ⟨hv, _⟩ | ⟨g, cp, cur, hv, hg, hh, _⟩
  · rw [hv] at hq; simp [Value.ownBlock] at hq
  · rw [hv] at hq
    simp only [Value.ownBlock, Option.some.injEq] at hq
    subst hq
    rcases Nat.lt_or_ge g w.heap.size with h' | h'
    · exact h'
    · simp [Array.getElem?_eq_none h'] at hh
/-- The law's line, opened for the walk: its cells, its texts joined, its command and its text. -/
theorem line_open (w : World) (hc : Calm w) (hf2 : Forms21 w) (l : LM) (hin : l.inn w) :
    ∃ (pa : Option Addr) (na ca : Nat) (pt : Option Addr) (nt ct : Nat) (J T : ByteArray) (c : Cmd), l.va = .slice pa na ca ∧ l.vt = .slice pt nt ct ∧ l.text.length = nt ∧ nt ≤ 1048576 ∧ J.size ≤ 1048576 ∧ T.size ≤ 604 + nt + J.size ∧ T = mkB (flat l.v.rows) ∧ c = l.v.cmd ∧ c.ns.length ≤ 2 ∧ c.al.length ≤ 20 ∧
      (∀ w', Later w w' → Calls Tryz.prog 6 #[.slice pt nt ct, .string ⟨#[]⟩] w' fun e w'' => e = .returned (.string J) ∧ Later w' w'') ∧
      (∀ w', Later w w' → Calls Tryz.prog 7 #[.agg #[.int .u8 l.d, .int .u32 l.a, .int .u32 l.b, .slice pa na ca, .slice pt nt ct, .int .u8 l.gap]] w' fun e w'' => ∃ p1 n1 c1 p2 n2 c2, e = .returned (.tuple #[.agg #[.int .i64 c.k, .slice p1 n1 c1, .slice p2 n2 c2, .string c.src], .string T]) ∧ Later w' w'' ∧
        w''.ownsRow w'.heap.size 3 1 (.slice p1 n1 c1) c.ns.length (c.ns.map (Value.int .i64)) ∧ w''.ownsRow w'.heap.size 49 5 (.slice p2 n2 c2) c.al.length (argCells c.al)) := by
  have hin' := hin
  obtain ⟨hok, hsa, hst, hla, hlt, hzt⟩ := hin'
  obtain ⟨J, hJ, hjc⟩ := join_texts w l.vt l.text hst hlt hzt
  obtain ⟨pt, ct, hvt, _, _⟩ := hst
  obtain ⟨pa, ca, hva, _⟩ := hsa
  rw [hvt] at hjc
  have hlens : Lib.lens l.v.text = (l.text.map ByteArray.size).sum := by
    unfold LM.v
    show Lib.lens (l.text.map fun t => t.data.toList) = _
    unfold Lib.lens
    rw [List.map_map]
    congr 1
  refine ⟨pa, l.args.length, ca, pt, l.text.length, ct, J, mkB (flat l.v.rows), l.v.cmd, hva, hvt, rfl, hlt, by omega, ?_, rfl, rfl, ?_, ?_, hjc, fun w' hl => ?_⟩
  · have h := l.v.rows_len hok
    have e : l.v.text.length = l.text.length := by unfold LM.v; simp
    rw [mkB_size]
    omega
  · have h1 := l.v.ns_len hok
    have h2 := formM_le l.v.k (l.v.k_lt hok)
    unfold LV.cmd
    simp only [List.length_map]
    omega
  · have h1 := l.v.vs_len
    unfold LV.cmd
    simp only [List.length_map]
    omega
  · have h := line_law w' (hc.later hl) (hf2.later hl) l (hin.later hl)
    rw [hvt, hva] at h
    refine h.mono ?_
    rintro e w'' ⟨cs, rfl, hb, p1, n1, c1, p2, n2, c2, rfl, h1, h2⟩
    exact ⟨p1, n1, c1, p2, n2, c2, rfl, hb, h1, h2⟩
theorem cmd_bounds (l : LV) (h : l.ok) : l.cmd.ns.length ≤ 1000000 ∧ l.cmd.al.length ≤ 1000000 := by
  have h1 := l.ns_len h
  have h2 := formM_le l.k (l.k_lt h)
  have h3 := l.vs_len
  unfold LV.cmd
  simp only [List.length_map]
  omega
theorem all_flat (l : LV) : flat l.all = flat l.rows ++ (if l.gap % 4 = 0 then [32, 10, 32, 32, 59, 32, 120, 10] else []) := by
  unfold LV.all
  rw [flat_app]
  congr 1
  split
  · rfl
  · rfl
theorem six_cells {A A' : World} {x0 x1 x2 x3 x4 x5 : Value} {T : TypeId} (hl : Later (A.alloc (.cells #[x0, x1, x2, x3, x4, x5] T)) A') :
    A'.cell? ⟨A.heap.size, 0, none⟩ = some x0 ∧ A'.cell? ⟨A.heap.size, 1, none⟩ = some x1 ∧ A'.cell? ⟨A.heap.size, 2, none⟩ = some x2 ∧ A'.cell? ⟨A.heap.size, 3, none⟩ = some x3 ∧ A'.cell? ⟨A.heap.size, 4, none⟩ = some x4 ∧ A'.cell? ⟨A.heap.size, 5, none⟩ = some x5 :=
  ⟨new_cell rfl hl rfl, new_cell rfl hl rfl, new_cell rfl hl rfl, new_cell rfl hl rfl, new_cell rfl hl rfl, new_cell rfl hl rfl⟩
end Go.Proofs.YtlkhkalniekaoaaGreatDoor
end
