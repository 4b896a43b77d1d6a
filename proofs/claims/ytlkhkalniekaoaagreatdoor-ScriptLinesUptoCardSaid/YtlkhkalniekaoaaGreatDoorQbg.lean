/- Parts of the proof: Uk. -/
import Derived.Test.YtlkhkalniekaoaaGreatDoorQax
import Derived.Test.YtlkhkalniekaoaaGreatDoorQbf

set_option linter.unusedVariables false
set_option linter.unusedSimpArgs false

section
/- ScriptLines: what script.Parse makes of the law's own lines; a plain law. -/
namespace Go.Proofs.YtlkhkalniekaoaaGreatDoor
open Go.RowKit Go.Shelf Go.Sort Go.Lib

theorem lnL_one : ∀ r : List UInt8, (∀ c ∈ r, c ≠ 10) → lnL r = [r]
  | [], _ => rfl
  | c :: r, h => lnL_cut c r (h c (by simp)) r [] (lnL_one r (fun x hx => h x (by simp [hx])))
theorem lnL_flat : ∀ rows : List (List UInt8), (∀ r ∈ rows, ∀ c ∈ r, c ≠ 10) → lnL (flat rows) = rows ++ [[]]
  | [], _ => rfl
  | r :: rs, h => by
    rw [flat_cons, lnL_join, lnL_one r (h r (by simp)), lnL_flat rs (fun x hx => h x (by simp [hx]))]
    first | done | rfl
theorem lines_flat (rows : List (List UInt8)) (h : ∀ r ∈ rows, ∀ c ∈ r, c ≠ 10) : linesOf ⟨(flat rows).toArray⟩ = (rows ++ [[]]).map fun (r : List UInt8) => (⟨r.toArray⟩ : ByteArray) := by
  apply bytes_inj
  rw [lines_ln, List.map_map]
  show lnL (flat rows) = _
  rw [lnL_flat rows h]
  exact (List.map_id _).symm

theorem LV.head_words (l : LV) (h : l.ok) : wordsOf ⟨l.head.toArray⟩ = (formW l.k :: l.words).map fun x => ⟨x.toArray⟩ := by
  unfold wordsOf
  show (Lib.fieldsD l.head).map _ = _
  unfold LV.head
  rw [Go.X.fields_line l.g l.g_gap.1 l.g_gap.2 (formW l.k) l.words (formW_plain l.k (l.k_lt h)) (l.words_plain h)]
theorem numsR_map : ∀ ns : List Nat, (∀ n ∈ ns, n ≤ 1000000) → numsR (ns.map fun n => (⟨(Lib.decDigits n).toArray⟩ : ByteArray)) = some (ns.map fun (n : Nat) => (n : Int))
  | [], _ => rfl
  | n :: r, h => by
    rw [List.map_cons, numsR, numS_dec n (h n (by simp)), numsR_map r (fun x hx => h x (by simp [hx]))]
    first | done | rfl
theorem argsR_map : ∀ vs : List AV, (∀ a ∈ vs, a.ok) → argsR (vs.map fun a => (⟨(argT a).2.toArray⟩ : ByteArray)) = some (vs.map fun a => (argT a).1)
  | [], _ => rfl
  | a :: r, h => by
    rw [List.map_cons, argsR, (argT_ok a (h a (by simp))).1, argsR_map r (fun x hx => h x (by simp [hx]))]
    first | done | rfl
theorem LV.rest (l : LV) (h : l.ok) : restR l.k (l.vs.map fun a => (⟨(argT a).2.toArray⟩ : ByteArray)) = some (l.vs.map fun a => (argT a).1) := by
  have ha := argsR_map l.vs (l.vs_ok h)
  unfold restR
  rw [ha, List.length_map]
  have hb : restBad l.k l.vs.length = false := by
    unfold restBad LV.vs
    by_cases h4 : l.k = 4
    · rw [if_pos (by omega), if_pos h4]
      simp
    · rw [if_neg (by omega)]
      by_cases h5 : l.k = 5
      · rw [if_pos (by omega), if_neg h4, if_pos h5]
        simp only [List.length_cons, List.length_take, decide_eq_false_iff_not]
        omega
      · rw [if_neg (by omega), if_neg h4, if_neg h5]
        decide
  rw [hb]
  simp only [Bool.false_eq_true, if_false]
  rw [if_neg]
  rintro ⟨h5, hh⟩
  have h5' : l.k = 5 := by omega
  unfold LV.vs at hh
  rw [if_neg (by omega), if_pos h5'] at hh
  simp [argT] at hh
theorem LV.line (l : LV) (h : l.ok) : lineR (wordsOf ⟨l.head.toArray⟩) = .ok ⟨l.k, l.ns.map fun (n : Nat) => (n : Int), l.vs.map fun a => (argT a).1, ⟨#[]⟩⟩ := by
  obtain ⟨f1, f2⟩ := form_find l.k (l.k_lt h)
  rw [l.head_words h]
  rw [lineR_some (ws := (formW l.k :: l.words).map fun x => (⟨x.toArray⟩ : ByteArray)) (k := l.k) (W := ⟨(formW l.k).toArray⟩) (M := formM l.k) (by rw [← f1]; first | done | rfl) f2]
  have hl := l.ns_len h
  have hw : ((formW l.k :: l.words).map fun x => (⟨x.toArray⟩ : ByteArray)).length = 1 + (formM l.k + l.vs.length) := by
    unfold LV.words
    simp [hl]
    omega
  have hd1 : (((formW l.k :: l.words).map fun x => (⟨x.toArray⟩ : ByteArray)).drop 1).take (formM l.k) = l.ns.map fun n => (⟨(Lib.decDigits n).toArray⟩ : ByteArray) := by
    unfold LV.words
    rw [List.map_cons, List.drop_succ_cons, List.drop_zero, List.map_append, List.take_append_of_le_length (by simp [hl])]
    rw [List.take_of_length_le (by simp [hl]), List.map_map]
    first | done | rfl
  have hd2 : ((formW l.k :: l.words).map fun x => (⟨x.toArray⟩ : ByteArray)).drop (1 + formM l.k) = l.vs.map fun a => (⟨(argT a).2.toArray⟩ : ByteArray) := by
    unfold LV.words
    rw [List.map_cons, Nat.add_comm, List.drop_succ_cons, List.map_append, List.drop_append_of_le_length (by simp [hl])]
    rw [List.drop_of_length_le (by simp [hl]), List.nil_append, List.map_map]
    first | done | rfl
  rw [hw, if_neg (by omega), hd1, hd2, numsR_map l.ns (fun n hn => by
    unfold LV.ns at hn
    obtain ⟨m, _, rfl⟩ := List.mem_map.1 hn
    omega), l.rest h]

theorem plain_head {w : List UInt8} {ws : List UInt8} (h : w ≠ [] ∧ w.all Go.X.plainB = true) : ∀ c, (w ++ ws).head? = some c → Go.X.plainB c = true := by
  intro c hc
  cases w with
  | nil => exact absurd rfl h.1
  | cons x r =>
    simp only [List.cons_append, List.head?_cons, Option.some.injEq] at hc
    rw [← hc]
    exact List.all_eq_true.1 h.2 x (by simp)
theorem form_semi : ∀ k, k < 9 → (formW k).head? ≠ some 59 := by decide
theorem LV.notBlank (l : LV) (h : l.ok) : blankS ⟨l.head.toArray⟩ = false := by
  have hb := blank_rests ⟨l.head.toArray⟩
  unfold blankS
  rw [← hb]
  unfold Go.X.restsB
  show (match Lib.fieldsD l.head with | [] => true | x :: _ => decide (x.head? = some 59)) = false
  unfold LV.head
  rw [Go.X.fields_line l.g l.g_gap.1 l.g_gap.2 (formW l.k) l.words (formW_plain l.k (l.k_lt h)) (l.words_plain h)]
  simp only [decide_eq_false_iff_not]
  exact form_semi l.k (l.k_lt h)

theorem dotN_lines (ts : List (List UInt8)) (post : List ByteArray) (h : ∀ t ∈ ts, t ≠ [46]) : dotN (ts.map mkB ++ mkB [46] :: post) = ts.length := by
  induction ts with
  | nil =>
    unfold dotN
    rw [List.map_nil, List.nil_append, List.takeWhile_cons_of_neg (by rw [show (mkB [46]).toList = [46] from by rw [Lib.toList_data]; first | done | rfl]; decide)]
    first | done | rfl
  | cons t ts ih =>
    have ht : ((mkB t).toList == [46]) = false := by
      rw [show (mkB t).toList = t from by rw [Lib.toList_data]; first | done | rfl]
      simpa using h t (by simp)
    unfold dotN at ih ⊢
    rw [List.map_cons, List.cons_append, List.takeWhile_cons_of_pos (by rw [ht]; first | done | rfl), List.length_cons, ih (fun x hx => h x (by simp [hx]))]
    first | done | rfl
/-- One of the law's lines, read. -/
theorem parse_row (pre post : List ByteArray) (l : LV) (h : l.ok) (out : List Cmd) (g : Nat) (ho : out.length < 200) :
    parseGo (pre ++ (l.rows.map mkB ++ post)) (g + 1) pre.length out = parseGo (pre ++ (l.rows.map mkB ++ post)) g (pre.length + l.rows.length) (out ++ [l.cmd]) := by
  have hx : (pre ++ (l.rows.map mkB ++ post))[pre.length]? = some (mkB l.head) := by
    rw [List.getElem?_append_right (Nat.le_refl _), Nat.sub_self]
    first | done | rfl
  rw [parseGo_step _ g pre.length out _ hx, if_neg (by rw [show mkB l.head = ⟨l.head.toArray⟩ from rfl, l.notBlank h]; decide), if_neg (by omega)]
  rw [show wordsOf (mkB l.head) = wordsOf ⟨l.head.toArray⟩ from rfl, l.line h]
  simp only
  by_cases hk : l.k = 1
  · rw [if_pos (by omega)]
    have hr : l.rows = l.head :: (l.lines ++ [[46]]) := by unfold LV.rows; rw [if_pos hk]
    have hd : (pre ++ (l.rows.map mkB ++ post)).drop (pre.length + 1) = l.lines.map mkB ++ mkB [46] :: post := by
      rw [List.drop_append, hr]
      simp
    have hn : dotN (l.lines.map mkB ++ mkB [46] :: post) = l.lines.length := dotN_lines l.lines post (fun t ht => by
      obtain ⟨u, _, rfl⟩ := List.mem_map.1 ht
      exact textL_dot u)
    rw [hd, hn, if_neg (by rw [List.length_append, List.length_append, List.length_map, hr]; simp; omega)]
    have ht : (l.lines.map mkB ++ mkB [46] :: post).take l.lines.length = l.lines.map mkB := by
      rw [List.take_append_of_le_length (by simp), List.take_of_length_le (by simp)]
    have hj : joinS (l.lines.map mkB) = ⟨l.src.toArray⟩ := by
      unfold joinS LV.src
      rw [if_pos hk, List.map_map]
      congr 2
      exact congrArg (fun z => Lib.join z [10]) (List.map_id l.lines)
    rw [ht, hj]
    have hc : (⟨l.k, l.ns.map fun (n : Nat) => (n : Int), l.vs.map fun a => (argT a).1, ⟨l.src.toArray⟩⟩ : Cmd) = l.cmd := rfl
    rw [hc]
    congr 1
    rw [hr]
    simp
    omega
  · rw [if_neg (by omega)]
    have hr : l.rows = [l.head] := by unfold LV.rows; rw [if_neg hk]
    have hc : (⟨l.k, l.ns.map fun (n : Nat) => (n : Int), l.vs.map fun a => (argT a).1, ⟨#[]⟩⟩ : Cmd) = l.cmd := by
      unfold LV.cmd LV.src
      rw [if_neg hk]
    rw [hc, hr]
    first | done | rfl
theorem parse_blank (pre post : List ByteArray) (x : ByteArray) (hx : blankS x = true) (out : List Cmd) (g : Nat) : parseGo (pre ++ (x :: post)) (g + 1) pre.length out = parseGo (pre ++ (x :: post)) g (pre.length + 1) out := by
  have h : (pre ++ (x :: post))[pre.length]? = some x := by
    rw [List.getElem?_append_right (Nat.le_refl _), Nat.sub_self]
    first | done | rfl
  rw [parseGo_step _ g pre.length out _ h, if_pos hx]
theorem blank_one : blankS (mkB [32]) = true := by kernel_rfl
theorem blank_two : blankS (mkB [32, 32, 59, 32, 120]) = true := by kernel_rfl
theorem blank_note : blankS (mkB [59, 32, 97, 32, 110, 111, 116, 101]) = true := by kernel_rfl
theorem blank_none : blankS (mkB []) = true := by kernel_rfl
theorem parse_all (pre post : List ByteArray) (l : LV) (h : l.ok) (out : List Cmd) (g : Nat) (ho : out.length < 200) (hg : l.all.length ≤ g) :
    ∃ g', g ≤ g' + l.all.length ∧ parseGo (pre ++ (l.all.map mkB ++ post)) g pre.length out = parseGo (pre ++ (l.all.map mkB ++ post)) g' (pre.length + l.all.length) (out ++ [l.cmd]) := by
  have hr1 : 1 ≤ l.rows.length := by unfold LV.rows; simp
  unfold LV.all at hg ⊢
  split at hg
  · rename_i h4
    rw [if_pos h4]
    simp only [List.length_append, List.length_cons, List.length_nil] at hg
    obtain ⟨g1, rfl⟩ : ∃ g1, g = g1 + 1 + 1 + 1 := ⟨g - 3, by omega⟩
    refine ⟨g1, by simp; omega, ?_⟩
    have e1 : pre ++ ((l.rows ++ [[32], [32, 32, 59, 32, 120]]).map mkB ++ post) = pre ++ (l.rows.map mkB ++ (mkB [32] :: mkB [32, 32, 59, 32, 120] :: post)) := by simp
    have e2 : pre ++ (l.rows.map mkB ++ (mkB [32] :: mkB [32, 32, 59, 32, 120] :: post)) = (pre ++ l.rows.map mkB) ++ (mkB [32] :: mkB [32, 32, 59, 32, 120] :: post) := by simp
    have e3 : (pre ++ l.rows.map mkB) ++ (mkB [32] :: mkB [32, 32, 59, 32, 120] :: post) = (pre ++ l.rows.map mkB ++ [mkB [32]]) ++ (mkB [32, 32, 59, 32, 120] :: post) := by simp
    rw [e1, parse_row pre _ l h out _ ho, e2]
    have h1 := parse_blank (pre ++ l.rows.map mkB) (mkB [32, 32, 59, 32, 120] :: post) (mkB [32]) blank_one (out ++ [l.cmd]) (g1 + 1)
    rw [List.length_append, List.length_map] at h1
    rw [h1, e3]
    have h2 := parse_blank (pre ++ l.rows.map mkB ++ [mkB [32]]) post (mkB [32, 32, 59, 32, 120]) blank_two (out ++ [l.cmd]) g1
    rw [List.length_append, List.length_append, List.length_map, List.length_singleton] at h2
    rw [h2]
    congr 1
    simp
    omega
  · rename_i h4
    rw [if_neg h4, List.append_nil]
    rw [List.append_nil] at hg
    obtain ⟨g1, rfl⟩ : ∃ g1, g = g1 + 1 := ⟨g - 1, by omega⟩
    exact ⟨g1, by omega, parse_row pre post l h out g1 ho⟩
theorem parse_lines : ∀ (ls : List LV) (pre : List ByteArray) (out : List Cmd) (g : Nat), (∀ l ∈ ls, l.ok) → out.length + ls.length ≤ 200 → ((ls.map LV.all).flatten.length + 1 ≤ g) →
    parseGo (pre ++ ((ls.map LV.all).flatten.map mkB ++ [mkB []])) g pre.length out = (out ++ ls.map LV.cmd, 0, 0)
  | [], pre, out, g, _, _, hg => by
    obtain ⟨g1, rfl⟩ : ∃ g1, g = g1 + 1 := ⟨g - 1, by omega⟩
    rw [List.map_nil, List.flatten_nil, List.map_nil, List.nil_append, parse_blank pre [] (mkB []) blank_none out g1, List.map_nil, List.append_nil]
    cases g1 with
    | zero => rfl
    | succ g2 =>
      have : (pre ++ [mkB []])[pre.length + 1]? = none := by rw [List.getElem?_eq_none_iff]; simp
      rw [parseGo, this]
  | l :: r, pre, out, g, hok, ho, hg => by
    rw [List.map_cons, List.flatten_cons, List.length_append] at hg
    simp only [List.length_cons] at ho
    have e : pre ++ (((l :: r).map LV.all).flatten.map mkB ++ [mkB []]) = pre ++ (l.all.map mkB ++ ((r.map LV.all).flatten.map mkB ++ [mkB []])) := by simp
    have e2 : pre ++ (l.all.map mkB ++ ((r.map LV.all).flatten.map mkB ++ [mkB []])) = (pre ++ l.all.map mkB) ++ ((r.map LV.all).flatten.map mkB ++ [mkB []]) := by simp
    obtain ⟨g', hg', hp⟩ := parse_all pre ((r.map LV.all).flatten.map mkB ++ [mkB []]) l (hok l (by simp)) out g (by omega) (by omega)
    rw [e, hp, e2]
    have ih := parse_lines r (pre ++ l.all.map mkB) (out ++ [l.cmd]) g' (fun x hx => hok x (by simp [hx])) (by simp; omega) (by omega)
    rw [List.length_append, List.length_map] at ih
    rw [ih]
    simp
/-- The whole text of the law. -/
def noteL : List UInt8 := [59, 32, 97, 32, 110, 111, 116, 101]
theorem plain_feed {c : UInt8} (h : Go.X.plainB c = true) : c ≠ 10 := by
  rintro rfl
  revert h
  decide
theorem LV.all_feed (l : LV) (h : l.ok) : ∀ r ∈ l.all, ∀ c ∈ r, c ≠ 10 := by
  intro r hr c hc
  unfold LV.all at hr
  rcases List.mem_append.1 hr with hr | hr
  · unfold LV.rows at hr
    rcases List.mem_cons.1 hr with rfl | hr
    · unfold LV.head at hc
      rcases List.mem_append.1 hc with hc | hc
      · exact plain_feed (List.all_eq_true.1 (formW_plain l.k (l.k_lt h)).2 c hc)
      · have key : ∀ ws : List (List UInt8), (∀ x ∈ ws, x ≠ [] ∧ x.all Go.X.plainB = true) → ∀ c ∈ Go.X.tailG l.g ws, c ≠ 10 := by
          intro ws
          induction ws with
          | nil => intro _ c hc; simp [Go.X.tailG] at hc
          | cons w r ih =>
            intro hw c hc
            simp only [Go.X.tailG, List.mem_append] at hc
            rcases hc with hc | hc | hc
            · have := List.all_eq_true.1 l.g_gap.2 c hc
              rintro rfl
              revert this
              decide
            · exact plain_feed (List.all_eq_true.1 (hw w (by simp)).2 c hc)
            · exact ih (fun x hx => hw x (by simp [hx])) c hc
        exact key l.words (l.words_plain h) c hc
    · split at hr
      · rcases List.mem_append.1 hr with hr | hr
        · obtain ⟨u, _, rfl⟩ := List.mem_map.1 hr
          exact textL_feed u c hc
        · simp only [List.mem_singleton] at hr
          subst hr
          simp at hc
          subst hc
          decide
      · simp at hr
  · split at hr
    · simp only [List.mem_cons, List.not_mem_nil, or_false] at hr
      rcases hr with rfl | rfl
      · simp at hc; subst hc; decide
      · simp only [List.mem_cons, List.not_mem_nil, or_false] at hc
        rcases hc with rfl | rfl | rfl | rfl | rfl <;> decide
    · simp at hr
theorem parse_law (ls : List LV) (hok : ∀ l ∈ ls, l.ok) (hl : ls.length ≤ 40) (s : ByteArray) (hs : s.data.toList = flat (noteL :: (ls.map LV.all).flatten)) (hz : s.size ≤ 65536) : parseR s = (ls.map LV.cmd, 0, 0) := by
  have hfeed : ∀ r ∈ noteL :: (ls.map LV.all).flatten, ∀ c ∈ r, c ≠ 10 := by
    intro r hr c hc
    rcases List.mem_cons.1 hr with rfl | hr
    · unfold noteL at hc
      simp only [List.mem_cons, List.not_mem_nil, or_false] at hc
      rcases hc with rfl | rfl | rfl | rfl | rfl | rfl | rfl | rfl <;> decide
    · obtain ⟨x, hx, hr⟩ := List.mem_flatten.1 hr
      obtain ⟨l, hl, rfl⟩ := List.mem_map.1 hx
      exact l.all_feed (hok l hl) r hr c hc
  have hse : s = ⟨(flat (noteL :: (ls.map LV.all).flatten)).toArray⟩ := by
    rw [← hs]
    first | done | exact (mk_bytes s).symm
  have hlines : linesOf s = mkB noteL :: ((ls.map LV.all).flatten.map mkB ++ [mkB []]) := by
    rw [hse, lines_flat _ hfeed]
    show ((noteL :: (ls.map LV.all).flatten) ++ [[]]).map mkB = _
    simp only [List.map_append, List.map_cons, List.map_nil, List.cons_append]
  unfold parseR
  rw [if_neg (by omega), hlines]
  have h1 := parse_blank [] ((ls.map LV.all).flatten.map mkB ++ [mkB []]) (mkB noteL) blank_note [] ((ls.map LV.all).flatten.map mkB ++ [mkB []]).length
  have h2 := parse_lines ls [mkB noteL] [] ((ls.map LV.all).flatten.map mkB ++ [mkB []]).length hok (by simp; omega) (by rw [List.length_append, List.length_map]; exact Nat.le_refl _)
  exact h1.trans (h2.trans (by simp))
end Go.Proofs.YtlkhkalniekaoaaGreatDoor
end
