/- Parts of the proof: Ww. -/
import Derived.Test.YtlkhkalniekaoaaGreatDoorQbd

set_option linter.unusedVariables false
set_option linter.unusedSimpArgs false

section
/- Two texts, a line feed between: what script.Parse answers of both; a plain law. -/
namespace Go.Proofs.YtlkhkalniekaoaaGreatDoor
open Go.RowKit Go.Shelf Go.Sort Go.Lib

def lnL : List UInt8 → List (List UInt8)
  | [] => [[]]
  | c :: r => if c = 10 then [] :: lnL r else match lnL r with
    | [] => [[c]]
    | h :: t => (c :: h) :: t
theorem lnL_ne : ∀ l : List UInt8, lnL l ≠ []
  | [] => by simp [lnL]
  | c :: r => by
    unfold lnL
    split
    · simp
    · split <;> simp
theorem lnL_cut (c : UInt8) (r : List UInt8) (h : c ≠ 10) (x : List UInt8) (t : List (List UInt8)) (e : lnL r = x :: t) : lnL (c :: r) = (c :: x) :: t := by
  rw [lnL, if_neg h, e]
theorem lnL_feed (r : List UInt8) : lnL (10 :: r) = [] :: lnL r := by rw [lnL, if_pos rfl]
theorem lnL_join : ∀ a b : List UInt8, lnL (a ++ 10 :: b) = lnL a ++ lnL b
  | [], b => by rw [List.nil_append, lnL_feed]; first | done | rfl
  | c :: r, b => by
    by_cases h : c = 10
    · subst h
      rw [List.cons_append, lnL_feed, lnL_join r b, lnL_feed]
      first | done | rfl
    · obtain ⟨x, t, e⟩ := List.exists_cons_of_ne_nil (lnL_ne r)
      rw [lnL_cut c r h x t e, List.cons_append, lnL_cut c (r ++ 10 :: b) h x (t ++ lnL b) (by rw [lnL_join r b, e]; first | done | rfl)]
      first | done | rfl
theorem lnL_sum : ∀ l : List UInt8, ((lnL l).map fun x => x.length + 1).sum = l.length + 1
  | [] => rfl
  | c :: r => by
    have ih := lnL_sum r
    by_cases h : c = 10
    · subst h
      rw [lnL_feed, List.map_cons, List.sum_cons, ih]
      simp only [List.length_cons, List.length_nil]
      omega
    · obtain ⟨x, t, e⟩ := List.exists_cons_of_ne_nil (lnL_ne r)
      rw [lnL_cut c r h x t e]
      rw [e] at ih
      simp only [List.map_cons, List.sum_cons, List.length_cons] at ih ⊢
      omega
theorem splitK_ln : ∀ s : List UInt8, Lib.splitK [10] 0 (Lib.count s [10]) s = lnL s
  | [] => by rw [Lib.count_miss (by simp [Lib.index])]; first | done | rfl
  | c :: r => by
    have ih := splitK_ln r
    by_cases h : c = 10
    · subst h
      have hix : Lib.index (10 :: r) [10] = ((0 : Nat) : Int) := by rw [Lib.index]; simp [List.isPrefixOf]
      rw [Lib.count_cons_eq, Nat.add_comm, Lib.splitK, hix, lnL_feed, if_neg (by decide), ← ih]
      simp
    · have hp : ([10] : List UInt8).isPrefixOf (c :: r) = false := by simp [List.isPrefixOf, Ne.symm h]
      have hix : Lib.index (c :: r) [10] = if Lib.index r [10] == -1 then -1 else Lib.index r [10] + 1 := by rw [Lib.index, hp]; simp
      rw [Lib.count_cons_ne _ _ _ h]
      by_cases hm : Lib.index r [10] = -1
      · have h0 : Lib.count r [10] = 0 := Lib.count_miss hm
        rw [h0] at ih ⊢
        exact (lnL_cut c r h r [] ih.symm).symm
      · have hge := Lib.index_ge r [10]
        obtain ⟨j, hj⟩ : ∃ j : Nat, Lib.index r [10] = j := ⟨(Lib.index r [10]).toNat, by omega⟩
        have hix' : Lib.index (c :: r) [10] = ((j + 1 : Nat) : Int) := by rw [hix, if_neg (fun e => hm (beq_iff_eq.1 e)), hj]; omega
        rw [Lib.count_hit (by simp) hj, Nat.add_comm] at ih ⊢
        rw [Lib.splitK, hj, if_neg (fun e => by have := beq_iff_eq.1 e; omega)] at ih
        rw [Lib.splitK, hix', if_neg (fun e => by have := beq_iff_eq.1 e; omega)]
        rw [lnL_cut c r h _ _ ih.symm]
        simp

theorem lines_ln (s : ByteArray) : (linesOf s).map (·.data.toList) = lnL s.data.toList := by
  unfold linesOf
  rw [Lib.splitB_data]
  exact splitK_ln s.data.toList
theorem bytes_inj : ∀ (A B : List ByteArray), A.map (·.data.toList) = B.map (·.data.toList) → A = B
  | [], [], _ => rfl
  | [], _ :: _, h => by simp at h
  | _ :: _, [], h => by simp at h
  | ⟨⟨x⟩⟩ :: A, ⟨⟨y⟩⟩ :: B, h => by
    simp only [List.map_cons, List.cons.injEq] at h
    obtain ⟨h1, h2⟩ := h
    subst h1
    rw [bytes_inj A B h2]
theorem lines_join (a b : ByteArray) : linesOf (a ++ ⟨#[10]⟩ ++ b) = linesOf a ++ linesOf b := by
  apply bytes_inj
  rw [List.map_append, lines_ln, lines_ln, lines_ln, ← lnL_join]
  congr 1
  simp
theorem lines_sum (s : ByteArray) : ((linesOf s).map fun x => x.size + 1).sum = s.size + 1 := by
  have h := lnL_sum s.data.toList
  rw [← lines_ln, List.map_map] at h
  rw [Lib.size_eq, ← h]
  congr 1

theorem fieldsGoD_sum : ∀ (f : Nat) (cur l : List UInt8), ((Lib.fieldsGoD f cur l).map List.length).sum ≤ cur.length + l.length
  | 0, cur, l => by
    unfold Lib.fieldsGoD
    split <;> simp
  | f + 1, cur, l => by
    unfold Lib.fieldsGoD
    split
    · split <;> simp
    · split
      · have := fieldsGoD_sum f [] (l.drop (Lib.decodeL l).2)
        rw [List.map_append, List.sum_append]
        simp only [List.length_nil, List.length_drop] at this
        split <;> simp <;> omega
      · have := fieldsGoD_sum f (cur ++ l.take (Lib.decodeL l).2) (l.drop (Lib.decodeL l).2)
        simp only [List.length_append, List.length_take, List.length_drop] at this
        omega
theorem words_sum (s : ByteArray) : ((wordsOf s).map ByteArray.size).sum ≤ s.size := by
  have h := fieldsGoD_sum (s.data.toList.length + 1) [] s.data.toList
  have e : (wordsOf s).map ByteArray.size = (Lib.fieldsD s.data.toList).map List.length := by
    unfold wordsOf
    rw [List.map_map]
    exact List.map_congr_left fun x _ => rfl
  rw [e, Lib.size_eq]
  unfold Lib.fieldsD
  simpa only [List.length_nil, Nat.zero_add] using h

theorem numS_empty (x : ByteArray) (h : x.size = 0) : numS x = none := by
  obtain ⟨⟨l⟩⟩ := x
  cases l with
  | nil => rfl
  | cons _ _ => simp [ByteArray.size] at h
theorem restR_le {k : Int} {ws : List ByteArray} {al : List Arg} (h : restR k ws = some al) : al.length ≤ 20 := by
  unfold restR at h
  split at h
  · cases h
  · rename_i hb
    split at h
    · cases h
    · rename_i al' ha
      have hl := argsR_length _ _ ha
      split at h
      · cases h
      · cases h
        rw [hl]
        unfold restBad at hb
        split at hb
        · simp at hb; omega
        · split at hb
          · simp at hb; omega
          · simp at hb; simp [hb]
theorem line_big (ws : List ByteArray) (c : Cmd) (h : lineR ws = .ok c) : 5 ≤ (ws.map ByteArray.size).sum ∧ c.ns.length ≤ 2 ∧ c.al.length ≤ 20 := by
  cases hf : formTab.findIdx? (fun p => decide (some p.1 = ws.head?)) with
  | none => rw [lineR, hf] at h; cases h
  | some k =>
    have hf' := hf
    rw [List.findIdx?_eq_some_iff_getElem] at hf'
    obtain ⟨hk, hp, _⟩ := hf'
    obtain ⟨W, M, hWM⟩ : ∃ W M, formTab[k]? = some (W, M) := ⟨_, _, List.getElem?_eq_getElem hk⟩
    have hW : some W = ws.head? := by
      have e : formTab[k] = (W, M) := by rw [List.getElem?_eq_getElem hk] at hWM; exact Option.some.inj hWM
      rw [e] at hp
      simpa using hp
    have hM : 4 ≤ W.size ∧ (M = 0 → 7 ≤ W.size) := by
      have : ∀ p ∈ formTab, 4 ≤ p.1.size ∧ (p.2 = 0 → 7 ≤ p.1.size) := by decide
      exact this _ (List.mem_of_getElem? hWM)
    have hM2 := formTab_le hWM
    rw [lineR_some hf hWM] at h
    split at h
    · cases h
    · rename_i hlen
      cases hn : numsR ((ws.drop 1).take M) with
      | none => rw [hn] at h; cases h
      | some ns =>
        rw [hn] at h
        cases hr : restR k (ws.drop (1 + M)) with
        | none => rw [hr] at h; cases h
        | some al =>
          rw [hr] at h
          cases h
          refine ⟨?_, ?_, restR_le hr⟩
          · cases ws with
            | nil => cases hW
            | cons x r =>
              cases hW
              rw [List.map_cons, List.sum_cons]
              by_cases h0 : M = 0
              · have := hM.2 h0
                omega
              · cases r with
                | nil => simp at hlen; omega
                | cons y r =>
                  obtain ⟨M', rfl⟩ : ∃ M', M = M' + 1 := ⟨M - 1, by omega⟩
                  rw [List.map_cons, List.sum_cons]
                  have hy : y.size ≠ 0 := fun hy => by
                    simp [numsR, numS_empty y hy] at hn
                  have := hM.1
                  omega
          · have := numsR_length _ _ hn
            show ns.length ≤ 2
            rw [this, List.length_take]
            omega
theorem lineR_err {ws : List ByteArray} {e : Int} (h : lineR ws = .error e) : e ≠ 0 := by
  cases hf : formTab.findIdx? (fun p => decide (some p.1 = ws.head?)) with
  | none => rw [lineR, hf] at h; cases h; decide
  | some k =>
    have hf' := hf
    rw [List.findIdx?_eq_some_iff_getElem] at hf'
    obtain ⟨hk, _, _⟩ := hf'
    obtain ⟨W, M, hWM⟩ : ∃ W M, formTab[k]? = some (W, M) := ⟨_, _, List.getElem?_eq_getElem hk⟩
    rw [lineR_some hf hWM] at h
    split at h
    · cases h; decide
    · split at h
      · cases h; decide
      · split at h
        · cases h; decide
        · cases h

theorem parseGo_past (ls : List ByteArray) (g i : Nat) (out : List Cmd) (h : ls[i]? = none) : parseGo ls g i out = (out, 0, 0) := by
  cases g with
  | zero => rfl
  | succ g => rw [parseGo, h]
theorem parseGo_fuel (ls : List ByteArray) : ∀ (g g' i : Nat) (out : List Cmd), ls.length ≤ g + i → ls.length ≤ g' + i → parseGo ls g i out = parseGo ls g' i out
  | 0, g', i, out, h, h' => by rw [parseGo_past ls 0 i out (List.getElem?_eq_none (by omega)), parseGo_past ls g' i out (List.getElem?_eq_none (by omega))]
  | g + 1, 0, i, out, h, h' => by rw [parseGo_past ls 0 i out (List.getElem?_eq_none (by omega)), parseGo_past ls (g + 1) i out (List.getElem?_eq_none (by omega))]
  | g + 1, g' + 1, i, out, h, h' => by
    cases hx : ls[i]? with
    | none => rw [parseGo_past _ _ _ _ hx, parseGo_past _ _ _ _ hx]
    | some x =>
      rw [parseGo_step ls g i out x hx, parseGo_step ls g' i out x hx]
      have e1 : ∀ (j : Nat) (o : List Cmd), i < j → parseGo ls g j o = parseGo ls g' j o := fun j o hj => parseGo_fuel ls g g' j o (by omega) (by omega)
      rw [e1 (i + 1) out (by omega)]
      cases lineR (wordsOf x) with
      | error e => rfl
      | ok c =>
        dsimp only
        rw [e1 (i + 1) _ (by omega), e1 (i + 1 + dotN (ls.drop (i + 1)) + 1) _ (by omega)]
def parseP (ls : List ByteArray) (i : Nat) (out : List Cmd) : List Cmd × Int × Int := parseGo ls ls.length i out
theorem parseP_past (ls : List ByteArray) (i : Nat) (out : List Cmd) (h : ls[i]? = none) : parseP ls i out = (out, 0, 0) := parseGo_past ls _ i out h
theorem parseP_step (ls : List ByteArray) (i : Nat) (out : List Cmd) (x : ByteArray) (hx : ls[i]? = some x) : parseP ls i out =
    if blankS x = true then parseP ls (i + 1) out
    else if out.length = 200 then ([], i + 1, 2)
    else match lineR (wordsOf x) with
      | .error e => ([], i + 1, e)
      | .ok c =>
        if c.k = 1 then
          if ls.length ≤ i + 1 + dotN (ls.drop (i + 1)) then ([], i + 1, 1)
          else parseP ls (i + 1 + dotN (ls.drop (i + 1)) + 1) (out ++ [{ c with src := joinS ((ls.drop (i + 1)).take (dotN (ls.drop (i + 1)))) }])
        else parseP ls (i + 1) (out ++ [c]) := by
  have hi : i < ls.length := (List.getElem?_eq_some_iff.1 hx).1
  have e : parseP ls i out = parseGo ls (ls.length + 1) i out := parseGo_fuel ls _ _ i out (by omega) (by omega)
  rw [e, parseGo_step ls _ i out x hx]
  first | done | rfl
theorem dotN_le : ∀ A : List ByteArray, dotN A ≤ A.length
  | [] => by simp [dotN]
  | x :: r => by
    have := dotN_le r
    unfold dotN at this ⊢
    rw [List.takeWhile_cons]
    split <;> simp <;> omega
theorem dotN_more : ∀ A B : List ByteArray, dotN A < A.length → dotN (A ++ B) = dotN A
  | [], _, h => by simp at h
  | x :: r, B, h => by
    have ih := dotN_more r B
    unfold dotN at h ih ⊢
    rw [List.cons_append, List.takeWhile_cons, List.takeWhile_cons]
    rw [List.takeWhile_cons] at h
    split
    · rename_i hx
      rw [if_pos hx] at h
      simp only [List.length_cons] at h ⊢
      rw [ih (by omega)]
    · rfl
theorem blank_size {x : ByteArray} (h : ¬ blankS x = true) : 1 ≤ x.size := by
  rcases Nat.eq_zero_or_pos x.size with h0 | h0
  · exfalso
    apply h
    obtain ⟨⟨l⟩⟩ := x
    cases l with
    | nil => rfl
    | cons _ _ => simp [ByteArray.size] at h0
  · exact h0

theorem parseP_lead (L1 L2 : List ByteArray) : ∀ (n i : Nat) (out : List Cmd), L1.length ≤ n + i → i ≤ L1.length → (parseP L1 i out).2.2 = 0 →
    parseP (L1 ++ L2) i out = parseP (L1 ++ L2) L1.length (parseP L1 i out).1
  | n, i, out, hn, hi, h0 => by
    cases hx : L1[i]? with
    | none =>
      have := List.getElem?_eq_none_iff.1 hx
      rw [parseP_past L1 i out hx, show i = L1.length by omega]
    | some x =>
      have hlt : i < L1.length := (List.getElem?_eq_some_iff.1 hx).1
      cases n with
      | zero => omega
      | succ n =>
        have hx2 : (L1 ++ L2)[i]? = some x := by rw [List.getElem?_append_left hlt, hx]
        rw [parseP_step L1 i out x hx] at h0 ⊢
        rw [parseP_step (L1 ++ L2) i out x hx2]
        by_cases hb : blankS x = true
        · rw [if_pos hb] at h0 ⊢
          rw [if_pos hb]
          exact parseP_lead L1 L2 n (i + 1) out (by omega) (by omega) h0
        · rw [if_neg hb] at h0 ⊢
          rw [if_neg hb]
          by_cases ho : out.length = 200
          · rw [if_pos ho] at h0
            cases h0
          · rw [if_neg ho] at h0 ⊢
            rw [if_neg ho]
            cases hl : lineR (wordsOf x) with
            | error e => rw [hl] at h0; exact absurd h0 (lineR_err hl)
            | ok c =>
              rw [hl] at h0
              dsimp only at h0 ⊢
              by_cases hk : c.k = 1
              · rw [if_pos hk] at h0 ⊢
                rw [if_pos hk]
                by_cases hd : L1.length ≤ i + 1 + dotN (L1.drop (i + 1))
                · rw [if_pos hd] at h0
                  cases h0
                · rw [if_neg hd] at h0 ⊢
                  have e1 : (L1 ++ L2).drop (i + 1) = L1.drop (i + 1) ++ L2 := List.drop_append_of_le_length (by omega)
                  have e2 : dotN ((L1 ++ L2).drop (i + 1)) = dotN (L1.drop (i + 1)) := by
                    rw [e1]
                    exact dotN_more _ _ (by rw [List.length_drop]; omega)
                  rw [e2, if_neg (by rw [List.length_append]; omega), e1, List.take_append_of_le_length (dotN_le _)]
                  exact parseP_lead L1 L2 n _ _ (by omega) (by omega) h0
              · rw [if_neg hk] at h0 ⊢
                rw [if_neg hk]
                exact parseP_lead L1 L2 n (i + 1) _ (by omega) (by omega) h0

/-- The sizes of the first lines, their line feeds with them. -/
def lsum (L : List ByteArray) (i : Nat) : Nat := ((L.take i).map fun x => x.size + 1).sum
theorem lsum_next {L : List ByteArray} {i : Nat} {x : ByteArray} (hx : L[i]? = some x) : lsum L (i + 1) = lsum L i + (x.size + 1) := by
  unfold lsum
  rw [List.take_add_one, hx]
  simp
theorem lsum_up (L : List ByteArray) : ∀ (d i : Nat), lsum L i ≤ lsum L (i + d)
  | 0, i => Nat.le_refl _
  | d + 1, i => by
    refine Nat.le_trans (lsum_up L d i) ?_
    cases hx : L[i + d]? with
    | none =>
      have := List.getElem?_eq_none_iff.1 hx
      unfold lsum
      rw [List.take_of_length_le this, List.take_of_length_le (by omega)]
      exact Nat.le_refl _
    | some x =>
      rw [← Nat.add_assoc, lsum_next hx]
      omega
theorem lsum_all (L : List ByteArray) (i : Nat) : lsum L i ≤ (L.map fun x => x.size + 1).sum := by
  have h := lsum_up L L.length i
  refine Nat.le_trans h ?_
  unfold lsum
  rw [List.take_of_length_le (by omega)]
  exact Nat.le_refl _
theorem line_room {x : ByteArray} {c : Cmd} (h : lineR (wordsOf x) = .ok c) : 5 ≤ x.size := Nat.le_trans (line_big _ _ h).1 (words_sum x)

theorem parseP_small (L : List ByteArray) : ∀ (n i : Nat) (out : List Cmd), L.length ≤ n + i → out.length * 6 ≤ lsum L i → (∀ c ∈ out, c.ns.length ≤ 2 ∧ c.al.length ≤ 20) →
    (parseP L i out).1.length * 6 ≤ (L.map fun x => x.size + 1).sum ∧ ∀ c ∈ (parseP L i out).1, c.ns.length ≤ 2 ∧ c.al.length ≤ 20
  | n, i, out, hn, hs, hq => by
    cases hx : L[i]? with
    | none =>
      rw [parseP_past L i out hx]
      exact ⟨Nat.le_trans hs (lsum_all L i), hq⟩
    | some x =>
      have hlt : i < L.length := (List.getElem?_eq_some_iff.1 hx).1
      cases n with
      | zero => omega
      | succ n =>
        have hnx := lsum_next hx
        have hq2 : ∀ c, lineR (wordsOf x) = .ok c → ∀ s, ∀ d ∈ out ++ [{ c with src := s }], d.ns.length ≤ 2 ∧ d.al.length ≤ 20 := by
          intro c hc s d hd
          rcases List.mem_append.1 hd with hd | hd
          · exact hq d hd
          · rw [List.mem_singleton.1 hd]
            exact (line_big _ _ hc).2
        rw [parseP_step L i out x hx]
        split
        · exact parseP_small L n (i + 1) out (by omega) (by omega) hq
        · split
          · exact ⟨by simp, by simp⟩
          · cases hl : lineR (wordsOf x) with
            | error e => exact ⟨by simp, by simp⟩
            | ok c =>
              have h5 := line_room hl
              dsimp only
              split
              · split
                · exact ⟨by simp, by simp⟩
                · have hup := lsum_up L (dotN (L.drop (i + 1)) + 1) (i + 1)
                  rw [← Nat.add_assoc] at hup
                  exact parseP_small L n _ _ (by omega) (by rw [List.length_append, List.length_singleton]; omega) (hq2 c hl _)
              · exact parseP_small L n (i + 1) _ (by omega) (by rw [List.length_append, List.length_singleton]; omega) (hq2 c hl c.src)

theorem parseP_tail (L1 L2 : List ByteArray) (l1 : List Cmd) (h1 : l1.length ≤ 100) (hT : (L2.map fun x => x.size + 1).sum ≤ 601) : ∀ (n i : Nat) (out : List Cmd), L2.length ≤ n + i → out.length * 6 ≤ lsum L2 i →
    (parseP (L1 ++ L2) (L1.length + i) (l1 ++ out)).2.2 = (parseP L2 i out).2.2 ∧ ((parseP L2 i out).2.2 = 0 → (parseP (L1 ++ L2) (L1.length + i) (l1 ++ out)).1 = l1 ++ (parseP L2 i out).1)
  | n, i, out, hn, hs => by
    have hg : (L1 ++ L2)[L1.length + i]? = L2[i]? := by rw [List.getElem?_append_right (by omega)]; congr 1; omega
    cases hx : L2[i]? with
    | none =>
      rw [parseP_past L2 i out hx, parseP_past (L1 ++ L2) (L1.length + i) _ (hg.trans hx)]
      exact ⟨rfl, fun _ => rfl⟩
    | some x =>
      have hlt : i < L2.length := (List.getElem?_eq_some_iff.1 hx).1
      cases n with
      | zero => omega
      | succ n =>
        have hnx := lsum_next hx
        have hal := Nat.le_trans (lsum_all L2 (i + 1)) hT
        rw [parseP_step L2 i out x hx, parseP_step (L1 ++ L2) (L1.length + i) (l1 ++ out) x (hg.trans hx)]
        by_cases hb : blankS x = true
        · rw [if_pos hb, if_pos hb]
          exact parseP_tail L1 L2 l1 h1 hT n (i + 1) out (by omega) (by omega)
        · have hbs := blank_size hb
          rw [if_neg hb, if_neg hb, if_neg (by rw [List.length_append]; omega), if_neg (by omega)]
          cases hl : lineR (wordsOf x) with
          | error e => exact ⟨rfl, fun h => absurd h (lineR_err hl)⟩
          | ok c =>
            have h5 := line_room hl
            dsimp only
            by_cases hk : c.k = 1
            · rw [if_pos hk, if_pos hk]
              have e1 : (L1 ++ L2).drop (L1.length + i + 1) = L2.drop (i + 1) := by
                rw [show L1.length + i + 1 = L1.length + (i + 1) by omega, List.drop_append]
                simp
              rw [e1]
              by_cases hd : L2.length ≤ i + 1 + dotN (L2.drop (i + 1))
              · rw [if_pos hd, if_pos (by rw [List.length_append]; omega)]
                exact ⟨rfl, fun h => by cases h⟩
              · rw [if_neg hd, if_neg (by rw [List.length_append]; omega)]
                have hup := lsum_up L2 (dotN (L2.drop (i + 1)) + 1) (i + 1)
                rw [← Nat.add_assoc] at hup
                have ih := parseP_tail L1 L2 l1 h1 hT n (i + 1 + dotN (L2.drop (i + 1)) + 1) (out ++ [{ c with src := joinS ((L2.drop (i + 1)).take (dotN (L2.drop (i + 1)))) }]) (by omega) (by rw [List.length_append, List.length_singleton]; omega)
                rw [← List.append_assoc, show L1.length + (i + 1 + dotN (L2.drop (i + 1)) + 1) = L1.length + i + 1 + dotN (L2.drop (i + 1)) + 1 by omega] at ih
                exact ih
            · rw [if_neg hk, if_neg hk]
              have ih := parseP_tail L1 L2 l1 h1 hT n (i + 1) (out ++ [c]) (by omega) (by rw [List.length_append, List.length_singleton]; omega)
              rw [← List.append_assoc] at ih
              exact ih

theorem parseR_small (a : ByteArray) (ha : a.size ≤ 600) : parseR a = parseP (linesOf a) 0 [] := by
  unfold parseR parseP
  rw [if_neg (by omega)]
theorem parse_few (a : ByteArray) (ha : a.size ≤ 600) : (parseR a).1.length ≤ 100 ∧ ∀ c ∈ (parseR a).1, c.ns.length ≤ 2 ∧ c.al.length ≤ 20 := by
  rw [parseR_small a ha]
  have h := parseP_small (linesOf a) (linesOf a).length 0 [] (by omega) (by simp) (by simp)
  rw [lines_sum] at h
  exact ⟨by have := h.1; omega, h.2⟩
theorem parse_join (a b : ByteArray) (ha : a.size ≤ 600) (hb : b.size ≤ 600) (h0 : (parseR a).2.2 = 0) :
    (parseR (a ++ ⟨#[10]⟩ ++ b)).2.2 = (parseR b).2.2 ∧ ((parseR b).2.2 = 0 → (parseR (a ++ ⟨#[10]⟩ ++ b)).1 = (parseR a).1 ++ (parseR b).1) := by
  have hf := (parse_few a ha).1
  have hz : (a ++ ⟨#[10]⟩ ++ b).size ≤ 1201 := by
    rw [ByteArray.size_append, ByteArray.size_append]
    have : (⟨#[10]⟩ : ByteArray).size = 1 := rfl
    omega
  have e : parseR (a ++ ⟨#[10]⟩ ++ b) = parseP (linesOf a ++ linesOf b) 0 [] := by
    unfold parseR parseP
    rw [if_neg (by omega), lines_join]
  rw [parseR_small a ha] at h0 hf ⊢
  rw [e, parseR_small b hb, parseP_lead (linesOf a) (linesOf b) (linesOf a).length 0 [] (by omega) (by omega) h0]
  have h := parseP_tail (linesOf a) (linesOf b) (parseP (linesOf a) 0 []).1 hf (by rw [lines_sum]; omega) (linesOf b).length 0 [] (by omega) (by simp)
  rw [Nat.add_zero, List.append_nil] at h
  exact h
end Go.Proofs.YtlkhkalniekaoaaGreatDoor
end
