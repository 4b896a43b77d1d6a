/- Parts of the proof: Vn. -/
import Derived.Test.YtlkhkalniekaoaaGreatDoorQbo
import Derived.Test.YtlkhkalniekaoaaGreatDoorQbd
import Derived.Test.YtlkhkalniekaoaaGreatDoorQbf

set_option linter.unusedVariables false
set_option linter.unusedSimpArgs false

section
/- script.Parse and the reference's Parse answer alike. -/
namespace Go.Proofs.YtlkhkalniekaoaaGreatDoor
open Go.RowKit Go.Shelf Go.Sort Go.Lib

theorem parseGo_small (ls : List ByteArray) : ∀ (g i : Nat) (out : List Cmd), out.length ≤ 200 → (∀ c ∈ out, c.ns.length ≤ 2 ∧ c.al.length ≤ 20) →
    (parseGo ls g i out).1.length ≤ 200 ∧ ∀ c ∈ (parseGo ls g i out).1, c.ns.length ≤ 2 ∧ c.al.length ≤ 20
  | 0, i, out, h1, h2 => ⟨h1, h2⟩
  | g + 1, i, out, h1, h2 => by
    cases hx : ls[i]? with
    | none =>
      have e : parseGo ls (g + 1) i out = (out, 0, 0) := by rw [parseGo, hx]
      rw [e]
      exact ⟨h1, h2⟩
    | some x =>
      rw [parseGo_step ls g i out x hx]
      split
      · exact parseGo_small ls g _ _ h1 h2
      · split
        · exact ⟨by simp, by simp⟩
        · rename_i hne
          split
          · exact ⟨by simp, by simp⟩
          · rename_i c hc
            obtain ⟨_, hb1, hb2⟩ := line_big _ c hc
            have hs : ∀ d : Cmd, d.ns = c.ns → d.al = c.al → ∀ e ∈ out ++ [d], e.ns.length ≤ 2 ∧ e.al.length ≤ 20 := fun d e1 e2 e he => by
              rcases List.mem_append.1 he with he | he
              · exact h2 e he
              · obtain rfl := List.mem_singleton.1 he
                rw [e1, e2]
                exact ⟨hb1, hb2⟩
            split
            · split
              · exact ⟨by simp, by simp⟩
              · exact parseGo_small ls g _ _ (by simp; omega) (hs _ rfl rfl)
            · exact parseGo_small ls g _ _ (by simp; omega) (hs _ rfl rfl)
theorem parse_bounds (s : ByteArray) : (parseR s).1.length ≤ 1000000 ∧ ∀ c ∈ (parseR s).1, c.ns.length ≤ 1000000 ∧ c.al.length ≤ 1000000 := by
  unfold parseR
  split
  · exact ⟨by simp, by simp⟩
  · obtain ⟨h1, h2⟩ := parseGo_small (linesOf s) (linesOf s).length 0 [] (by simp) (by simp)
    exact ⟨by omega, fun c hc => by have := h2 c hc; omega⟩
/-- script.Parse and the reference's Parse answer alike: what a law that compares them wants. -/
theorem both_parse (s : ByteArray) (hs : s.size ≤ 1000000) (w : World) (hc : Calm w) (hf : w.rangeAt 2 0 formCells.toList) (hf2 : Forms21 w) :
    ∃ (l : List Cmd) (i e : Int), (∀ w', Later w w' → Calls Tryz.prog 8 #[.string s] w' fun en w2 => ∃ p n c xs, en = .returned (.tuple #[.slice p n c, .int .i64 i, .int .i64 e]) ∧ Later w' w2 ∧ w2.ownsRow w'.heap.size 35 4 (.slice p n c) l.length xs ∧ Cmds w2 w'.heap.size l xs) ∧
      (∀ w', Later w w' → Calls Tryz.prog 10 #[.string s] w' fun en w2 => ∃ p n c xs, en = .returned (.tuple #[.slice p n c, .int .i64 i, .int .i64 e]) ∧ Later w' w2 ∧ w2.ownsRow w'.heap.size 35 4 (.slice p n c) l.length xs ∧ Cmds w2 w'.heap.size l xs) ∧
      l.length ≤ 1000000 ∧ ∀ c ∈ l, c.ns.length ≤ 1000000 ∧ c.al.length ≤ 1000000 := by
  rcases hR : parseR s with ⟨l, i, e⟩
  refine ⟨l, i, e, fun w' hl => ?_, fun w' hl => ?_, ?_⟩
  · refine (parse_any s w' (hc.later hl) (range_later hf hl) hs).mono ?_
    rintro en w2 ⟨v, xs, he, hb, ho, hm⟩
    rw [hR] at he ho hm
    obtain ⟨p, c, rfl⟩ := own_len ho
    exact ⟨p, _, c, xs, he, hb, ho, hm⟩
  · refine (parse21_any s w' (hc.later hl) (hf2.later hl) hs).mono ?_
    rintro en w2 ⟨v, xs, he, hb, ho, hm⟩
    rw [hR] at he ho hm
    obtain ⟨p, c, rfl⟩ := own_len ho
    exact ⟨p, _, c, xs, he, hb, ho, hm⟩
  · have := parse_bounds s
    rw [hR] at this
    exact this
end Go.Proofs.YtlkhkalniekaoaaGreatDoor
end
