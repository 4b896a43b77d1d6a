/- Parts of the proof: Ye. -/
import Derived.Test.YtcmjcphflhengaaGreatDoorQbb
import Derived.Test.YtcmjcphflhengaaGreatDoorQbc

set_option linter.unusedVariables false
set_option linter.unusedSimpArgs false

section
/- palinglaw21.ScriptTexts: the walk. -/
namespace Go.Proofs.YtcmjcphflhengaaGreatDoor
open Go.RowKit Go.Shelf Go.Sort Go.Lib

theorem parseGo_small (ls : List ByteArray) : ∀ (g i : Nat) (out : List Cmd), out.length ≤ 200 → (∀ c ∈ out, c.ns.length ≤ 2 ∧ c.al.length ≤ 20) →
    (parseGo ls g i out).1.length ≤ 200 ∧ ∀ c ∈ (parseGo ls g i out).1, c.ns.length ≤ 2 ∧ c.al.length ≤ 20
  | 0, i, out, h1, h2 => ⟨h1, h2⟩
  | g + 1, i, out, h1, h2 => by
    cases hx : ls[i]? with
    | none =>
      have e : parseGo ls (g + 1) i out = (out, 0, 0) := by rw [parseGo, hx]
      rw [e]
      exact ⟨h1, h2⟩
    | some x =>
      rw [parseGo_step ls g i out x hx]
      split
      · exact parseGo_small ls g _ _ h1 h2
      · split
        · exact ⟨by simp, by simp⟩
        · rename_i hne
          split
          · exact ⟨by simp, by simp⟩
          · rename_i c hc
            obtain ⟨_, hb1, hb2⟩ := line_big _ c hc
            have hs : ∀ d : Cmd, d.ns = c.ns → d.al = c.al → ∀ e ∈ out ++ [d], e.ns.length ≤ 2 ∧ e.al.length ≤ 20 := fun d e1 e2 e he => by
              rcases List.mem_append.1 he with he | he
              · exact h2 e he
              · obtain rfl := List.mem_singleton.1 he
                rw [e1, e2]
                exact ⟨hb1, hb2⟩
            split
            · split
              · exact ⟨by simp, by simp⟩
              · exact parseGo_small ls g _ _ (by simp; omega) (hs _ rfl rfl)
            · exact parseGo_small ls g _ _ (by simp; omega) (hs _ rfl rfl)
theorem parse_bounds (s : ByteArray) : (parseR s).1.length ≤ 1000000 ∧ ∀ c ∈ (parseR s).1, c.ns.length ≤ 1000000 ∧ c.al.length ≤ 1000000 := by
  unfold parseR
  split
  · exact ⟨by simp, by simp⟩
  · obtain ⟨h1, h2⟩ := parseGo_small (linesOf s) (linesOf s).length 0 [] (by simp) (by simp)
    exact ⟨by omega, fun c hc => by have := h2 c hc; omega⟩
/-- script.Parse and the reference's Parse answer alike: what a law that compares them wants. -/
theorem both_parse (s : ByteArray) (hs : s.size ≤ 1000000) (w : World) (hc : Calm w) (hf : w.rangeAt 1 0 formCells.toList) (hf2 : Forms21 w) :
    ∃ (l : List Cmd) (i e : Int), (∀ w', Later w w' → Calls Tryz.prog 5 #[.string s] w' fun en w2 => ∃ p n c xs, en = .returned (.tuple #[.slice p n c, .int .i64 i, .int .i64 e]) ∧ Later w' w2 ∧ w2.ownsRow w'.heap.size 33 4 (.slice p n c) l.length xs ∧ Cmds w2 w'.heap.size l xs) ∧
      (∀ w', Later w w' → Calls Tryz.prog 6 #[.string s] w' fun en w2 => ∃ p n c xs, en = .returned (.tuple #[.slice p n c, .int .i64 i, .int .i64 e]) ∧ Later w' w2 ∧ w2.ownsRow w'.heap.size 33 4 (.slice p n c) l.length xs ∧ Cmds w2 w'.heap.size l xs) ∧
      l.length ≤ 1000000 ∧ ∀ c ∈ l, c.ns.length ≤ 1000000 ∧ c.al.length ≤ 1000000 := by
  rcases hR : parseR s with ⟨l, i, e⟩
  refine ⟨l, i, e, fun w' hl => ?_, fun w' hl => ?_, ?_⟩
  · refine (parse_any s w' (hc.later hl) (range_later hf hl) hs).mono ?_
    rintro en w2 ⟨v, xs, he, hb, ho, hm⟩
    rw [hR] at he ho hm
    obtain ⟨p, c, rfl⟩ := own_len ho
    exact ⟨p, _, c, xs, he, hb, ho, hm⟩
  · refine (parse21_any s w' (hc.later hl) (hf2.later hl) hs).mono ?_
    rintro en w2 ⟨v, xs, he, hb, ho, hm⟩
    rw [hR] at he ho hm
    obtain ⟨p, c, rfl⟩ := own_len ho
    exact ⟨p, _, c, xs, he, hb, ho, hm⟩
  · have := parse_bounds s
    rw [hR] at this
    exact this

set_option maxHeartbeats 1000000 in
set_option maxRecDepth 1000000 in
theorem texts_any (w : World) (s : ByteArray) (hc : Calm w) (hf : w.rangeAt 1 0 formCells.toList) (hf2 : Forms21 w) (hA : Calls Tryz.prog 4 #[] w fun e w' => e = .returned (.bool true) ∧ Later w w') :
    Calls Tryz.prog 3 #[.string s] w fun e w' => e = .returned (.bool true) ∧ Later w w' := by
  have HA : Aside (Calls Tryz.prog 4 #[] w fun e w' => e = .returned (.bool true) ∧ Later w w') := hA
  clear hA
  by_cases hs : 2000 < s.size
  · clear hf hf2
    go_enter Tryz.func3, Tryz.ntmps3
    go_wp2_with (go_at_call 4; (with_reducible refine Calls.mono HA.out ?_); rintro e w1 ⟨rfl, hb1⟩; have B1 : Aside (Later w w1) := hb1; clear hb1)
    go_ret
    exact ⟨rfl, B1.out⟩
  · obtain ⟨l, i, e, h1, h2, h3, h4⟩ := both_parse s (by omega) w hc hf hf2
    have P1 : Aside (∀ w', Later w w' → Calls Tryz.prog 5 #[.string s] w' fun en w2 => ∃ p n c xs, en = .returned (.tuple #[.slice p n c, .int .i64 i, .int .i64 e]) ∧ Later w' w2 ∧ w2.ownsRow w'.heap.size 33 4 (.slice p n c) l.length xs ∧ Cmds w2 w'.heap.size l xs) := h1
    have P2 : Aside (∀ w', Later w w' → Calls Tryz.prog 6 #[.string s] w' fun en w2 => ∃ p n c xs, en = .returned (.tuple #[.slice p n c, .int .i64 i, .int .i64 e]) ∧ Later w' w2 ∧ w2.ownsRow w'.heap.size 33 4 (.slice p n c) l.length xs ∧ Cmds w2 w'.heap.size l xs) := h2
    have HS : Aside (∀ c ∈ l, c.ns.length ≤ 1000000 ∧ c.al.length ≤ 1000000) := h4
    have HL : Aside (l.length ≤ 1000000) := h3
    clear h1 h2 h3 h4 hf hf2 hc
    go_enter Tryz.func3, Tryz.ntmps3
    go_wp2_with (first
      | (go_at_call 4; (with_reducible refine Calls.mono HA.out ?_); rintro e w1 ⟨rfl, hb1⟩; have B1 : Aside (Later w w1) := hb1; clear hb1)
      | (go_at_call 5; (with_reducible refine Calls.mono (P1.out _ B1.out) ?_); rintro en w2 ⟨p1, n1, c1, xs1, rfl, hb, ho, hm⟩; have B12 : Aside (Later w1 w2) := hb; have B2 : Aside (Later w w2) := B1.out.step hb; have O1 : Aside (World.ownsRow _ _ _ _ _ _ _) := ho; have M1 : Aside (Cmds _ _ _ _) := hm; clear hb ho hm)
      | (go_at_call 6; (with_reducible refine Calls.mono (P2.out _ B2.out) ?_); rintro en w3 ⟨p2, n2, c2, xs2, rfl, hb, ho, hm⟩; have B23 : Aside (Later w2 w3) := hb; have B3 : Aside (Later w w3) := B2.out.step hb; have O2 : Aside (World.ownsRow _ _ _ _ _ _ _) := ho; have M2 : Aside (Cmds _ _ _ _) := hm; clear hb ho hm)
      | (go_at_call 7; (with_reducible refine Calls.mono (same_any w3 l p1 p2 n1 c1 n2 c2 _ _ xs1 xs2 (owned_later O1.out B23.out) (M1.out.later B23.out) O2.out M2.out HL.out HS.out) ?_); rintro en w4 ⟨rfl, hb⟩; have B4 : Aside (Later w w4) := B3.out.step hb; clear hb))
    go_ret
    exact ⟨rfl, B4.out⟩
end Go.Proofs.YtcmjcphflhengaaGreatDoor
end
