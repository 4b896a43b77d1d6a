/- Parts of the proof: Uh, Uj, Vb, Vc, Vd, Ve, Vf. -/
import Derived.Deep.RegionLaw
import Derived.Test.YtlkhkalniekaoaaGreatDoorQaz
import Derived.Test.YtlkhkalniekaoaaGreatDoorQaa
import Derived.Test.YtlkhkalniekaoaaGreatDoorQaw
import Derived.Test.YtlkhkalniekaoaaGreatDoorQav

set_option linter.unusedVariables false
set_option linter.unusedSimpArgs false

section
/- (L).Line's closure: a value more, and its word. -/
namespace Go.Proofs.YtlkhkalniekaoaaGreatDoor
open Go.RowKit Go.Shelf Go.Sort Go.Lib

set_option maxHeartbeats 4000000 in
set_option maxRecDepth 1000000 in
theorem add_any (W w : World) (hc : Calm w) (B pl pr pc pg ps pn : Nat) (l : LM) (k : Nat) (ns : List Nat) (nv : Value) (al : List Arg) (av : Value) (src s g : ByteArray) (h : LineSt W w B pl pr pc pg ps pn l k ns nv al av src s g) (a : AV) (ha : a.ok) (hn : al.length ≤ 100) (hs : s.size ≤ 1000000000) (hg : g.size ≤ 10) :
    Calls Tryz.prog 17 #[.agg #[.int .u8 a.d, .int .i64 a.n, .int .u8 a.s], .pointer (some ⟨pc, 0, none⟩), .pointer (some ⟨ps, 0, none⟩), .pointer (some ⟨pg, 0, none⟩)] w
      fun e w' => e = .returned (.tuple #[]) ∧ ∃ av', LineSt W w' B pl pr pc pg ps pn l k ns nv (al ++ [(argT a).1]) av' src (s ++ (g ++ mkB (argT a).2)) g := by
  obtain ⟨pa, ma, qa, rfl⟩ := own_slice h.args
  have hTs : (mkB (argT a).2).size ≤ 21 := by rw [mkB_size]; exact argT_len a ha
  have HA0 : ∀ w', Later w w' → Calls Tryz.prog 18 #[.agg #[.int .u8 a.d, .int .i64 a.n, .int .u8 a.s]] w' fun e w'' => e = .returned (.tuple #[(argT a).1.v, .string (mkB (argT a).2)]) ∧ Later w' w'' := fun w' hl => arg21_any a ha w' (hc.later hl)
  obtain ⟨X, hX⟩ : ∃ X, (argT a).1 = X := ⟨_, rfl⟩
  obtain ⟨T, hT⟩ : ∃ T, mkB (argT a).2 = T := ⟨_, rfl⟩
  simp only [hX, hT] at HA0 hTs ⊢
  clear hX hT hc ha
  rcases X with ⟨xk, xn, xt, xh, xb⟩
  have HA : Aside (∀ w', Later w w' → Calls Tryz.prog 18 #[.agg #[.int .u8 a.d, .int .i64 a.n, .int .u8 a.s]] w' fun e w'' => e = .returned (.tuple #[.agg #[.int .u8 xk, .int .i64 xn, .string xt, .int .i64 xh, .bool xb], .string T]) ∧ Later w' w'') := HA0
  have HS : Aside (LineSt W w B pl pr pc pg ps pn l k ns nv al (.slice pa ma qa) src s g) := h
  have hlo := h.lo
  have hsz := h.size
  clear HA0 h
  obtain ⟨i0, hi, hz0, hz1, hz2⟩ := info_parts argInfo
  go_enter Tryz.func17, Tryz.ntmps17
  go_wp2_with (first
    | (go_at_call 18; (with_reducible refine Calls.mono (HA.out _ ((Below.refl _ w).alloc (Nat.le_refl _) _)) ?_); rintro e w2 ⟨rfl, hb⟩; have H2 : Aside (LineSt W w2 B pl pr pc pg ps pn l k ns nv al (.slice pa ma qa) src s g) := HS.out.keep (after w _ hb); clear hb; have hz2' := H2.out.size; have q2 : ∀ A, (w2.alloc A).cell? ⟨pc, 2, none⟩ = some (.slice pa ma qa) := fun A => (World.cell?_alloc_past _ _ _ (by omega)).trans H2.out.four.1.2.2.1)
    | (at_builtin; refine wpList_append_own _ rfl (.tmp 13) (.tmp 15) 33 rfl B 49 i0 (.agg #[.int .u8 0, .int .i64 0, .string ⟨#[]⟩, .int .i64 0, .bool false]) 5 48 Tryz.underlying33 hi hz0 hz1 hz2 rfl (by decide) (.slice pa ma qa) al.length (argCells al) (by simp [Act.eval, Act.put]) ((H2.out.args.alloc _).alloc _) ⟨w2.heap.size + 1, 0, none⟩ 1 1 [.int .u8 xk, .int .i64 xn, .string xt, .int .i64 xh, .bool xb] rfl rfl ?_ ?_ ?_ ?_ ?_ ?_; rotate_right; intro av' w3 hown' hgrow _; have H3 : LineSt W ((w2.alloc (.cells #[.int .u8 xk, .int .i64 xn, .string xt, .int .i64 xh, .bool xb] 49)).alloc (.cells #[.int .u8 xk, .int .i64 xn, .string xt, .int .i64 xh, .bool xb] 49)) B pl pr pc pg ps pn l k ns nv al (.slice pa ma qa) src s g := H2.out.keep (((Below.refl _ w2).alloc (Nat.le_refl _) _).alloc (by simp) _); have hq := H3.grown H3.args hgrow; have H4 : Aside (LineSt W (w3.setCell ⟨pc, 2, none⟩ av') B pl pr pc pg ps pn l k ns nv (al ++ [⟨xk, xn, xt, xh, xb⟩]) av' src s g) := H3.addArg ⟨xk, xn, xt, xh, xb⟩ hgrow hown'; obtain ⟨-, -, -, -, g5, g6, g7, g8, -, -⟩ := hq; obtain ⟨⟨c0, c1, c2, c3⟩, f0, f1, f2, f3⟩ := g5; clear q2 H3 hgrow; obtain ⟨vg, vc, rfl, -, -⟩ := own_form hown'; clear hown'))
  · go_end0
    exact ⟨rfl, _, H4.out.putS _⟩
  · exact fun j u hj => cells5_at (by simp) _ _ _ _ _ _ j u hj
  · intro u hu
    simp only [List.mem_cons, List.not_mem_nil, or_false] at hu
    rcases hu with rfl | rfl | rfl | rfl | rfl <;> rfl
  · unfold maxLen; omega
  · omega
  · simp; omega
end Go.Proofs.YtlkhkalniekaoaaGreatDoor
end

section
/- (L).Line: the texts of a load; plain laws and strings.ReplaceAll. -/
namespace Go.Proofs.YtlkhkalniekaoaaGreatDoor
open Go.RowKit Go.Shelf Go.Sort Go.Lib

theorem feedless (t : ByteArray) (ht : t.size ≤ 1048576) (w : World) (hc : Calm w) : Calls Tryz.prog 19 #[.string t, .string ⟨#[10]⟩, .string ⟨#[]⟩] w fun e w' => e = .returned (.string (mkB (t.data.toList.filter (· != 10)))) ∧ Later w w' := by
  obtain ⟨m, hm⟩ := hc.most
  refine (Tryz.strings_ReplaceAll t ⟨#[10]⟩ ⟨#[]⟩ m w (by omega) hm (by decide) ?_).mono ?_
  · show t.size + _ * 0 ≤ _
    omega
  · rintro e w' ⟨rfl, hb⟩
    refine ⟨?_, hb⟩
    show Ending.returned (.string ⟨(Lib.replaceAll t.data.toList [10] []).toArray⟩) = _
    rw [Go.X.replaceAll_feed]
    first | done | rfl
/-- The first j texts, as they stand in the source. -/
def runT (ts : List ByteArray) (j : Nat) : List UInt8 := Lib.join ((ts.take j).map fun t => textL t.data.toList) [10]
theorem runT_next {ts : List ByteArray} {j : Nat} {t : ByteArray} (h : ts[j]? = some t) : runT ts (j + 1) = if j = 0 then textL t.data.toList else runT ts j ++ ([10] ++ textL t.data.toList) := by
  have hj : j < ts.length := (List.getElem?_eq_some_iff.1 h).1
  unfold runT
  rw [List.take_add_one, h, List.map_append]
  show Lib.join (_ ++ [textL t.data.toList]) [10] = _
  split
  · rename_i h0
    subst h0
    simp [Lib.join_cons, Lib.joinTail]
  · rename_i h0
    rw [Go.X.join_snoc]
    intro e
    have h3 := congrArg List.length e
    rw [List.length_map, List.length_take, List.length_nil] at h3
    omega
theorem runT_step {ts : List ByteArray} {j : Nat} {t T : ByteArray} (h : ts[j]? = some t) (hT : T = mkB (runT ts j)) (V : ByteArray) (hV : V = mkB (textL t.data.toList)) :
    (j = 0 → T ++ V = mkB (runT ts (j + 1))) ∧ (j ≠ 0 → T ++ ⟨#[10]⟩ ++ V = mkB (runT ts (j + 1))) := by
  subst hT hV
  rw [runT_next h]
  refine ⟨fun h0 => ?_, fun h0 => ?_⟩
  · rw [if_pos h0, h0, ← mkB_app]
    first | done | rfl
  · rw [if_neg h0, mkB_app, mkB_app, ByteArray.append_assoc]
    first | done | rfl
theorem textL_two (t : ByteArray) : ((mkB (t.data.toList.filter (· != 10))).toList == [46]) = true ∧ (⟨#[]⟩ : ByteArray) = mkB (textL t.data.toList) ∨ ((mkB (t.data.toList.filter (· != 10))).toList == [46]) = false ∧ mkB (t.data.toList.filter (· != 10)) = mkB (textL t.data.toList) := by
  have e : (mkB (t.data.toList.filter (· != 10))).toList = t.data.toList.filter (· != 10) := by rw [Lib.toList_data]; first | done | rfl
  rw [e]
  unfold textL
  by_cases h : t.data.toList.filter (· != 10) = [46]
  · rw [if_pos h, h]
    exact .inl ⟨rfl, rfl⟩
  · rw [if_neg h]
    exact .inr ⟨by simpa using h, rfl⟩
theorem join_len_le (xs : List (List UInt8)) : (Lib.join xs [10]).length ≤ Lib.lens xs + xs.length := by
  have h := flat_join xs
  have h2 := flat_len xs
  rw [h] at h2
  by_cases hn : xs = []
  · subst hn
    simp [Lib.join_nil]
  · rw [if_neg hn, List.length_append] at h2
    omega
theorem lens_take : ∀ (ts : List ByteArray) (j : Nat), Lib.lens ((ts.take j).map fun t => textL t.data.toList) ≤ (ts.map ByteArray.size).sum
  | [], j => by simp [Lib.lens]
  | t :: r, 0 => by simp [Lib.lens]
  | t :: r, j + 1 => by
    have h1 := textL_len t.data.toList
    have h2 := lens_take r j
    have h3 : t.size = t.data.toList.length := Lib.size_eq t
    simp only [Lib.lens, List.take_succ_cons, List.map_cons, List.sum_cons] at h2 ⊢
    omega
theorem runT_len (ts : List ByteArray) (j : Nat) : (runT ts j).length ≤ (ts.map ByteArray.size).sum + ts.length := by
  have h1 := join_len_le ((ts.take j).map fun t => textL t.data.toList)
  have h2 := lens_take ts j
  rw [List.length_map, List.length_take] at h1
  unfold runT
  omega
theorem LM.lines_run (l : LM) : Lib.join l.v.lines [10] = runT l.text l.text.length := by
  unfold runT LV.lines LM.v
  rw [List.take_of_length_le (Nat.le_refl _), List.map_map]
  first | done | rfl
theorem cmd_load {l : LV} {k : Nat} (hk : l.k = k) (h1 : k = 1) {T : ByteArray} (hT : T = mkB (Lib.join l.lines [10])) (hv : l.vs = []) : (⟨k, l.ns.map fun (n : Nat) => (n : Int), [], T⟩ : Cmd) = l.cmd := by
  subst hk hT
  unfold LV.cmd LV.src
  rw [if_pos h1, hv]
  first | done | rfl
theorem flat_load_eq {l : LV} {k : Nat} (hk : l.k = k) (h1 : k = 1) (hv : l.vs = []) {s T : ByteArray} (hs : s = mkB (formW k ++ Go.X.tailG l.g (l.ns.map Lib.decDigits ++ ([] : List AV).map fun a => (argT a).2))) (hT : T = mkB (Lib.join l.lines [10])) :
    (l.lines = [] → s ++ (⟨#[10]⟩ ++ T ++ ⟨#[46]⟩) ++ ⟨#[10]⟩ = mkB (flat l.rows)) ∧ (l.lines ≠ [] → s ++ (⟨#[10]⟩ ++ (T ++ ⟨#[10]⟩) ++ ⟨#[46]⟩) ++ ⟨#[10]⟩ = mkB (flat l.rows)) := by
  subst hk hT hs
  have hh : l.head = formW l.k ++ Go.X.tailG l.g (l.ns.map Lib.decDigits ++ ([] : List AV).map fun a => (argT a).2) := by
    unfold LV.head LV.words
    rw [hv]
  have e10 : (⟨#[10]⟩ : ByteArray) = mkB [10] := rfl
  have e46 : (⟨#[46]⟩ : ByteArray) = mkB [46] := rfl
  rw [l.flat_load h1, ← hh]
  unfold LV.body
  refine ⟨fun h => ?_, fun h => ?_⟩
  · rw [if_pos h, e10, e46]
    simp only [← mkB_app]
    congr 1
    simp
  · rw [if_neg h, e10, e46]
    simp only [← mkB_app]
    congr 1
    simp
theorem LV.vs_none (l : LV) (h4 : l.k ≠ 4) (h5 : l.k ≠ 5) : l.vs = [] := by
  unfold LV.vs
  rw [if_neg h4, if_neg h5]
theorem LV.vs_call (l : LV) (h5 : l.k = 5) {n : Nat} (hn : l.args.length ≤ n) : l.vs = [⟨4, 0, l.gap⟩] ++ l.args.take (min n 19) := by
  unfold LV.vs
  rw [if_neg (by omega), if_pos h5]
  show _ :: _ = _ :: _
  congr 1
  by_cases h : n ≤ 19
  · rw [Nat.min_eq_left h, List.take_of_length_le hn, List.take_of_length_le (by omega)]
    first | done | rfl
  · rw [Nat.min_eq_right (by omega)]
    first | done | rfl
theorem take_min {vs : List AV} {j : Nat} {a : AV} (h : vs[j]? = some a) : vs.take (min (j + 1) 19) = if j < 19 then vs.take (min j 19) ++ [a] else vs.take (min j 19) := by
  split
  · rename_i h1
    rw [Nat.min_eq_left (by omega), Nat.min_eq_left (by omega), List.take_add_one, h]
    first | done | rfl
  · rename_i h1
    rw [Nat.min_eq_right (by omega), Nat.min_eq_right (by omega)]
end Go.Proofs.YtlkhkalniekaoaaGreatDoor
end

section
/- The reference's among, digits, whole. -/
namespace Go.Proofs.YtlkhkalniekaoaaGreatDoor
open Go.RowKit Go.Shelf Go.Sort Go.Lib

theorem u8_back (c : UInt8) : ((c.toNat : Int)).toNat.toUInt8 = c := by simp
set_option maxHeartbeats 1600000 in
theorem among_any (s set : ByteArray) (hs : s.size ≤ 1000000) (w : World) :
    Calls Tryz.prog 152 #[.string s, .string set] w fun e w' => e = .returned (.int .i64 (Go.X.runB (Go.X.inB set.data.toList) s.data.toList)) ∧ w' = w := by
  obtain ⟨p, hp⟩ : ∃ p, Go.X.inB set.data.toList = p := ⟨_, rfl⟩
  have HP : Aside (Go.X.inB set.data.toList = p) := hp
  rw [hp]
  clear hp
  go_enter Tryz.func152, Tryz.ntmps152
  go_wp2
  go_loopg [8] s.size (fun g i wr => ∃ k : Nat, k + g = s.size ∧ i = .int .i64 k ∧ wr = w ∧ Aside (Go.X.runB p s.data.toList = k + Go.X.runB p (s.data.toList.drop k)))
  case atStart => exact ⟨0, by omega, rfl, rfl, by simp [Aside]⟩
  case round =>
    obtain ⟨k, hk, rfl, rfl, HA⟩ := hrel
    by_cases hlt : k < s.size
    · obtain ⟨c, hcb⟩ : ∃ c, s[k]'hlt = c := ⟨_, rfl⟩
      have HC : Aside (s.data.toList[k]? = some c) := by rw [← hcb]; exact byte_at s k hlt
      obtain ⟨z, hz⟩ : ∃ z, Lib.indexByte set.data.toList c = z := ⟨_, rfl⟩
      have HZ : Aside (p c = decide (0 ≤ z)) := by show _ = _; rw [← HP.out, ← hz]; first | done | rfl
      have hu := u8_back c
      by_cases hn : z < 0
      · go_wp2_with (go_at_call 106; refine (Tryz.strings_IndexByte _ _ _).mono ?_; rintro e w1 ⟨rfl, rfl⟩; rw [hu, hz])
        go_ret
        refine ⟨?_, rfl⟩
        rw [HA.out, Go.X.runB_stop HC.out (by rw [HZ.out]; simp; omega)]
        first | done | rfl
      · go_wp2_with (go_at_call 106; refine (Tryz.strings_IndexByte _ _ _).mono ?_; rintro e w1 ⟨rfl, rfl⟩; rw [hu, hz])
        go_roundg (gk - 1)
        case measure => omega
        case rel => exact ⟨k + 1, by omega, by go_num, rfl, by show _ = _; rw [HA.out, Go.X.runB_drop HC.out (by rw [HZ.out]; simp; omega)]; omega⟩
    · go_wp2
      have : k = s.size := by omega
      go_ret
      refine ⟨?_, rfl⟩
      rw [HA.out, List.drop_eq_nil_of_le (by rw [← Lib.size_eq]; omega)]
      subst this
      rfl

theorem empty_size (s : ByteArray) : s.toList.isEmpty = decide (s.size = 0) := by
  rw [Lib.toList_data, Lib.size_eq]
  cases s.data.toList <;> simp

set_option maxHeartbeats 1600000 in
theorem digits_any (s : ByteArray) (hs : s.size ≤ 1000000) (w : World) :
    Calls Tryz.prog 46 #[.string s] w fun e w' => e = .returned (.int .i64 (Go.X.digitsR s.data.toList)) ∧ w' = w := by
  by_cases h0 : s.size = 0
  · have he : s.toList.isEmpty = true := by rw [empty_size]; simp [h0]
    have HR : Aside (Go.X.digitsR s.data.toList = -1) := by
      have : s.data.toList = [] := List.length_eq_zero_iff.1 (by rw [← Lib.size_eq]; exact h0)
      show _ = _
      rw [this]
      exact Go.X.digits_nil
    clear h0
    go_enter Tryz.func46, Tryz.ntmps46
    go_wp2
    go_ret
    exact ⟨by rw [HR.out]; first | done | rfl, rfl⟩
  · have he : s.toList.isEmpty = false := by rw [empty_size]; simp [h0]
    by_cases h7 : 7 < s.size
    · have HR : Aside (Go.X.digitsR s.data.toList = -1) := Go.X.digits_long (by rw [← Lib.size_eq]; exact h7)
      clear h0
      go_enter Tryz.func46, Tryz.ntmps46
      go_wp2
      go_ret
      exact ⟨by rw [HR.out]; first | done | rfl, rfl⟩
    · have hp : 0 < s.size := by omega
      by_cases hz : 1 < s.size ∧ ((s[0]'hp).toNat : Int) = 48
      · obtain ⟨hz1, hz2⟩ := hz
        have HR : Aside (Go.X.digitsR s.data.toList = -1) := Go.X.digits_nought (by rw [← Lib.size_eq]; exact hz1) ((head_is s hp 48).2 hz2)
        clear h0
        go_enter Tryz.func46, Tryz.ntmps46
        go_wp2
        go_ret
        exact ⟨by rw [HR.out]; first | done | rfl, rfl⟩
      · have HH : Aside (1 < s.data.toList.length → s.data.toList.head? ≠ some 48) := fun h1 h2 => hz ⟨by rw [Lib.size_eq]; exact h1, (head_is s hp 48).1 h2⟩
        have HE : Aside (s.data.toList ≠ []) := fun h => h0 (by rw [Lib.size_eq, h]; first | done | rfl)
        have HL : Aside (s.data.toList.length ≤ 7) := by show _ ≤ _; rw [← Lib.size_eq]; omega
        have b48 : (((s[0]'hp).toNat : Int) == 48) = false ∨ ((((s[0]'hp).toNat : Int) == 48) = true ∧ ¬ 1 < s.size) := by
          cases hb : (((s[0]'hp).toNat : Int) == 48) with
          | false => exact .inl rfl
          | true => exact .inr ⟨rfl, fun h1 => hz ⟨h1, by simpa using hb⟩⟩
        clear h0 hz
        rcases b48 with b48 | ⟨b48, hz1⟩
        all_goals go_enter Tryz.func46, Tryz.ntmps46
        all_goals go_wp2
        all_goals (
          go_loopg [3, 24] s.size (fun g nv i wr => ∃ (k n : Nat), k + g = s.size ∧ i = .int .i64 k ∧ nv = .int .i64 n ∧ wr = w ∧ n ≤ 9999999 ∧ Aside (Go.X.valF 0 (s.data.toList.take k) = n) ∧ Aside ((s.data.toList.take k).all Go.X.digB = true))
          case atStart => exact ⟨0, 0, by omega, rfl, rfl, rfl, by omega, rfl, rfl⟩
          case round =>
            obtain ⟨k, n, hk, rfl, rfl, rfl, hn9, HV, HD⟩ := hrel
            by_cases hlt : k < s.size
            · obtain ⟨c, hcb⟩ : ∃ c, s[k]'hlt = c := ⟨_, rfl⟩
              have HC : Aside (s.data.toList[k]? = some c) := by rw [← hcb]; exact byte_at s k hlt
              have hc8 := c.toNat_lt
              by_cases hd : 48 ≤ c.toNat ∧ c.toNat ≤ 57
              · obtain ⟨d1, d2⟩ := hd
                have HB : Aside (Go.X.digB c = true) := by show _ = _; unfold Go.X.digB; simp only [decide_eq_true_eq]; omega
                have HV2 : Aside (Go.X.valF 0 (s.data.toList.take (k + 1)) = n * 10 + (c.toNat - 48)) := by show _ = _; rw [Go.X.valF_take HC.out, HV.out]
                have HD2 : Aside ((s.data.toList.take (k + 1)).all Go.X.digB = true) := Go.X.all_take HC.out HB.out HD.out
                have hb9 : n * 10 + (c.toNat - 48) ≤ 9999999 := by
                  have := Go.X.valF_lt _ 7 HD2.out (by rw [List.length_take]; have := HL.out; omega)
                  rw [HV2.out] at this
                  omega
                go_wp2
                go_roundg (gk - 1)
                case measure => omega
                case rel => exact ⟨k + 1, n * 10 + (c.toNat - 48), by omega, by go_num, by go_num, rfl, hb9, HV2.out, HD2.out⟩
              · have HR : Aside (Go.X.digitsR s.data.toList = -1) := Go.X.digits_other HC.out (by unfold Go.X.digB; simp only [decide_eq_false_iff_not]; exact hd)
                go_wp2
                all_goals first
                  | (exfalso; omega)
                  | (go_ret; exact ⟨by rw [HR.out]; first | done | rfl, rfl⟩)
            · have hks : k = s.size := by omega
              have htk : s.data.toList.take k = s.data.toList := List.take_of_length_le (by rw [← Lib.size_eq]; omega)
              have HR : Aside (Go.X.digitsR s.data.toList = if n ≤ 1000000 then (n : Int) else -1) := by
                show _ = _
                rw [Go.X.digits_end HE.out HL.out HH.out (by rw [← htk]; exact HD.out)]
                rw [← htk, HV.out]
              clear htk hks
              by_cases hm : n ≤ 1000000
              · go_wp2
                go_ret
                exact ⟨by rw [HR.out, if_pos hm]; first | done | rfl, rfl⟩
              · go_wp2
                go_ret
                exact ⟨by rw [HR.out, if_neg hm]; first | done | rfl, rfl⟩)
end Go.Proofs.YtlkhkalniekaoaaGreatDoor
end

section
/- The reference's whole. -/
namespace Go.Proofs.YtlkhkalniekaoaaGreatDoor
open Go.RowKit Go.Shelf Go.Sort Go.Lib

theorem neg_back (n : Nat) (h : n ≤ 9223372036854775808) : wrap64 (IntKind.u64.wrap (-(n : Int))) = -(n : Int) := by
  unfold wrap64 IntKind.wrap
  simp only [IntKind.bits, IntKind.signed, Bool.false_and]
  simp only [Bool.false_eq_true, if_false]
  omega
theorem whole_none {r : Option Int} (h : r = none) {v : Int} {b : Bool} (hb : b = false) (w : World) : ∃ x, Ending.returned (.tuple #[.int .i64 v, .bool b]) = .returned (.tuple #[.int .i64 x, .bool r.isSome]) ∧ w = w ∧ ∀ u, r = some u → x = u :=
  ⟨v, by rw [h, hb]; first | done | rfl, rfl, fun u hu => by rw [h] at hu; cases hu⟩
theorem whole_some {r : Option Int} {v x : Int} (h : r = some x) (hv : v = x) {b : Bool} (hb : b = true) (w : World) : ∃ y, Ending.returned (.tuple #[.int .i64 v, .bool b]) = .returned (.tuple #[.int .i64 y, .bool r.isSome]) ∧ w = w ∧ ∀ u, r = some u → y = u :=
  ⟨v, by rw [h, hb]; first | done | rfl, rfl, fun u hu => by rw [h] at hu; cases hu; exact hv⟩

set_option maxHeartbeats 3200000 in
theorem whole_core (s T : ByteArray) (m : Bool) (hT : T.size ≤ 1000000) (w : World)
    (hcut : Calls Tryz.prog 108 #[.string s, .string ⟨#[45]⟩] w fun e w' => e = .returned (.tuple #[.string T, .bool m]) ∧ w' = w) :
    Calls Tryz.prog 73 #[.string s] w fun e w' => ∃ v, e = .returned (.tuple #[.int .i64 v, .bool (Go.X.wholeT m T.data.toList).isSome]) ∧ w' = w ∧ ∀ u, Go.X.wholeT m T.data.toList = some u → v = u := by
  have HCUT : Aside (Calls Tryz.prog 108 #[.string s, .string ⟨#[45]⟩] w fun e w' => e = .returned (.tuple #[.string T, .bool m]) ∧ w' = w) := hcut
  clear hcut
  by_cases h0 : T.size = 0
  · have he : T.toList.isEmpty = true := by rw [empty_size]; simp [h0]
    have HR : Aside (Go.X.wholeT m T.data.toList = none) := by
      have : T.data.toList = [] := List.length_eq_zero_iff.1 (by rw [← Lib.size_eq]; exact h0)
      show _ = _
      rw [this]
      exact Go.X.whole_nil
    clear h0
    go_enter Tryz.func73, Tryz.ntmps73
    go_wp2_with (go_at_call 108; (with_reducible refine Calls.mono HCUT.out ?_); rintro e w1 ⟨rfl, rfl⟩)
    go_ret2
    exact whole_none HR.out rfl _
  · have he : T.toList.isEmpty = false := by rw [empty_size]; simp [h0]
    by_cases h7 : 19 < T.size
    · have HR : Aside (Go.X.wholeT m T.data.toList = none) := Go.X.whole_long (by rw [← Lib.size_eq]; exact h7)
      clear h0
      go_enter Tryz.func73, Tryz.ntmps73
      go_wp2_with (go_at_call 108; (with_reducible refine Calls.mono HCUT.out ?_); rintro e w1 ⟨rfl, rfl⟩)
      go_ret2
      exact whole_none HR.out rfl _
    · have hp : 0 < T.size := by omega
      by_cases hz : 1 < T.size ∧ ((T[0]'hp).toNat : Int) = 48
      · obtain ⟨hz1, hz2⟩ := hz
        have HR : Aside (Go.X.wholeT m T.data.toList = none) := Go.X.whole_nought (by rw [← Lib.size_eq]; exact hz1) ((head_is T hp 48).2 hz2)
        clear h0
        go_enter Tryz.func73, Tryz.ntmps73
        go_wp2_with (go_at_call 108; (with_reducible refine Calls.mono HCUT.out ?_); rintro e w1 ⟨rfl, rfl⟩)
        go_ret2
        exact whole_none HR.out rfl _
      · by_cases hq : m = true ∧ T.data.toList = [48]
        · obtain ⟨rfl, hq2⟩ := hq
          have ht : (T.toList == [48]) = true := by rw [Lib.toList_data, hq2]; first | done | rfl
          have HR : Aside (Go.X.wholeT true T.data.toList = none) := by show _ = _; rw [hq2]; exact Go.X.whole_zero
          have hsz1 : ¬ 1 < T.size := by rw [Lib.size_eq, hq2]; decide
          clear h0 hq2
          go_enter Tryz.func73, Tryz.ntmps73
          go_wp2_with (go_at_call 108; (with_reducible refine Calls.mono HCUT.out ?_); rintro e w1 ⟨rfl, rfl⟩)
          all_goals (go_ret2; exact whole_none HR.out rfl _)
        · have HH : Aside (1 < T.data.toList.length → T.data.toList.head? ≠ some 48) := fun h1 h2 => hz ⟨by rw [Lib.size_eq]; exact h1, (head_is T hp 48).1 h2⟩
          have HE : Aside (T.data.toList ≠ []) := fun h => h0 (by rw [Lib.size_eq, h]; first | done | rfl)
          have HL : Aside (T.data.toList.length ≤ 19) := by show _ ≤ _; rw [← Lib.size_eq]; omega
          have ht : m = true → (T.toList == [48]) = false := fun hm => by
            cases h : T.toList == [48] with
            | false => rfl
            | true => exact absurd ⟨hm, by rw [← Lib.toList_data]; exact beq_iff_eq.1 h⟩ hq
          have HQ : Aside (m = true → T.data.toList ≠ [48]) := fun hm h => hq ⟨hm, h⟩
          have b48 : (((T[0]'hp).toNat : Int) == 48) = false ∨ ((((T[0]'hp).toNat : Int) == 48) = true ∧ ¬ 1 < T.size) := by
            cases hb : (((T[0]'hp).toNat : Int) == 48) with
            | false => exact .inl rfl
            | true => exact .inr ⟨rfl, fun h1 => hz ⟨h1, by simpa using hb⟩⟩
          clear h0 hq hz
          cases m with
          | true =>
            have ht' := ht rfl
            have HQ2 : Aside (T.data.toList ≠ [48]) := HQ.out rfl
            clear ht HQ
            rcases b48 with b48 | ⟨b48, hz1⟩
            all_goals go_enter Tryz.func73, Tryz.ntmps73
            all_goals go_wp2_with (go_at_call 108; (with_reducible refine Calls.mono HCUT.out ?_); rintro e w1 ⟨rfl, rfl⟩)
            all_goals (
              go_loopg [6, 39] T.size (fun g nv i wr => ∃ (k n : Nat), k + g = T.size ∧ i = .int .i64 k ∧ nv = .int .u64 n ∧ wr = w1 ∧ n ≤ 9999999999999999999 ∧ Aside (Go.X.valF 0 (T.data.toList.take k) = n) ∧ Aside ((T.data.toList.take k).all Go.X.digB = true))
              case atStart => exact ⟨0, 0, by omega, rfl, rfl, rfl, by omega, rfl, rfl⟩
              case round =>
                obtain ⟨k, n, hk, rfl, rfl, rfl, hn9, HV, HD⟩ := hrel
                by_cases hlt : k < T.size
                · obtain ⟨c, hcb⟩ : ∃ c, T[k]'hlt = c := ⟨_, rfl⟩
                  have HC : Aside (T.data.toList[k]? = some c) := by rw [← hcb]; exact byte_at T k hlt
                  have hc8 := c.toNat_lt
                  by_cases hd : 48 ≤ c.toNat ∧ c.toNat ≤ 57
                  · obtain ⟨d1, d2⟩ := hd
                    have HB : Aside (Go.X.digB c = true) := by show _ = _; unfold Go.X.digB; simp only [decide_eq_true_eq]; omega
                    have HV2 : Aside (Go.X.valF 0 (T.data.toList.take (k + 1)) = n * 10 + (c.toNat - 48)) := by show _ = _; rw [Go.X.valF_take HC.out, HV.out]
                    have HD2 : Aside ((T.data.toList.take (k + 1)).all Go.X.digB = true) := Go.X.all_take HC.out HB.out HD.out
                    have hb9 : n * 10 + (c.toNat - 48) ≤ 9999999999999999999 := by
                      have := Go.X.valF_lt _ 19 HD2.out (by rw [List.length_take]; have := HL.out; omega)
                      rw [HV2.out] at this
                      omega
                    go_wp2
                    go_roundg (gk - 1)
                    case measure => omega
                    case rel => exact ⟨k + 1, n * 10 + (c.toNat - 48), by omega, by go_num, by go_num, rfl, hb9, HV2.out, HD2.out⟩
                  · have HR : Aside (Go.X.wholeT true T.data.toList = none) := Go.X.whole_other HC.out (by unfold Go.X.digB; simp only [decide_eq_false_iff_not]; exact hd)
                    go_wp2
                    all_goals first
                      | (exfalso; omega)
                      | (go_ret2; exact whole_none HR.out rfl _)
                · have hks : k = T.size := by omega
                  have htk : T.data.toList.take k = T.data.toList := List.take_of_length_le (by rw [← Lib.size_eq]; omega)
                  have HR : Aside (Go.X.wholeT true T.data.toList = if n ≤ 9223372036854775808 then some (-(n : Int)) else none) := by
                    show _ = _
                    rw [Go.X.whole_minus HE.out HL.out HH.out HQ2.out (by rw [← htk]; exact HD.out)]
                    rw [← htk, HV.out]
                  clear htk hks
                  by_cases hm : n ≤ 9223372036854775808
                  · go_wp2
                    go_ret2
                    exact whole_some (HR.out.trans (if_pos hm)) (neg_back n hm) (by simp; omega) _
                  · go_wp2
                    go_ret2
                    exact whole_none (HR.out.trans (if_neg hm)) (by simp; omega) _)
          | false =>
            clear ht HQ
            rcases b48 with b48 | ⟨b48, hz1⟩
            all_goals go_enter Tryz.func73, Tryz.ntmps73
            all_goals go_wp2_with (go_at_call 108; (with_reducible refine Calls.mono HCUT.out ?_); rintro e w1 ⟨rfl, rfl⟩)
            all_goals (
              go_loopg [6, 39] T.size (fun g nv i wr => ∃ (k n : Nat), k + g = T.size ∧ i = .int .i64 k ∧ nv = .int .u64 n ∧ wr = w1 ∧ n ≤ 9999999999999999999 ∧ Aside (Go.X.valF 0 (T.data.toList.take k) = n) ∧ Aside ((T.data.toList.take k).all Go.X.digB = true))
              case atStart => exact ⟨0, 0, by omega, rfl, rfl, rfl, by omega, rfl, rfl⟩
              case round =>
                obtain ⟨k, n, hk, rfl, rfl, rfl, hn9, HV, HD⟩ := hrel
                by_cases hlt : k < T.size
                · obtain ⟨c, hcb⟩ : ∃ c, T[k]'hlt = c := ⟨_, rfl⟩
                  have HC : Aside (T.data.toList[k]? = some c) := by rw [← hcb]; exact byte_at T k hlt
                  have hc8 := c.toNat_lt
                  by_cases hd : 48 ≤ c.toNat ∧ c.toNat ≤ 57
                  · obtain ⟨d1, d2⟩ := hd
                    have HB : Aside (Go.X.digB c = true) := by show _ = _; unfold Go.X.digB; simp only [decide_eq_true_eq]; omega
                    have HV2 : Aside (Go.X.valF 0 (T.data.toList.take (k + 1)) = n * 10 + (c.toNat - 48)) := by show _ = _; rw [Go.X.valF_take HC.out, HV.out]
                    have HD2 : Aside ((T.data.toList.take (k + 1)).all Go.X.digB = true) := Go.X.all_take HC.out HB.out HD.out
                    have hb9 : n * 10 + (c.toNat - 48) ≤ 9999999999999999999 := by
                      have := Go.X.valF_lt _ 19 HD2.out (by rw [List.length_take]; have := HL.out; omega)
                      rw [HV2.out] at this
                      omega
                    go_wp2
                    go_roundg (gk - 1)
                    case measure => omega
                    case rel => exact ⟨k + 1, n * 10 + (c.toNat - 48), by omega, by go_num, by go_num, rfl, hb9, HV2.out, HD2.out⟩
                  · have HR : Aside (Go.X.wholeT false T.data.toList = none) := Go.X.whole_other HC.out (by unfold Go.X.digB; simp only [decide_eq_false_iff_not]; exact hd)
                    go_wp2
                    all_goals first
                      | (exfalso; omega)
                      | (go_ret2; exact whole_none HR.out rfl _)
                · have hks : k = T.size := by omega
                  have htk : T.data.toList.take k = T.data.toList := List.take_of_length_le (by rw [← Lib.size_eq]; omega)
                  have HR : Aside (Go.X.wholeT false T.data.toList = if n < 9223372036854775808 then some (n : Int) else none) := by
                    show _ = _
                    rw [Go.X.whole_plain HE.out HL.out HH.out (by rw [← htk]; exact HD.out)]
                    rw [← htk, HV.out]
                  clear htk hks
                  by_cases hm : n < 9223372036854775808
                  · go_wp2
                    go_ret2
                    exact whole_some (HR.out.trans (if_pos hm)) (by omega) (by simp; omega) _
                  · go_wp2
                    go_ret2
                    exact whole_none (HR.out.trans (if_neg hm)) (by simp; omega) _)

theorem whole_any (s : ByteArray) (hs : s.size ≤ 1000000) (w : World) :
    Calls Tryz.prog 73 #[.string s] w fun e w' => ∃ v, e = .returned (.tuple #[.int .i64 v, .bool (Go.X.wholeL s.data.toList).isSome]) ∧ w' = w ∧ ∀ u, Go.X.wholeL s.data.toList = some u → v = u := by
  have h := whole_core s ⟨(Lib.trimPrefix s.data.toList [45]).toArray⟩ (Lib.hasPrefix s.data.toList [45]) (by
    rw [Lib.size_eq]
    have := Lib.trimPrefix_le s.data.toList [45]
    rw [← Lib.size_eq] at this
    exact Nat.le_trans this hs) w (Tryz.strings_CutPrefix s ⟨#[45]⟩ w)
  rw [Go.X.wholeT_eq]
  exact h
end Go.Proofs.YtlkhkalniekaoaaGreatDoor
end

section
/- The reference's one token: digits, a word. -/
namespace Go.Proofs.YtlkhkalniekaoaaGreatDoor
open Go.RowKit Go.Shelf Go.Sort Go.Lib

theorem run_digits (l : List UInt8) : Go.X.runB (Go.X.inB [48, 49, 50, 51, 52, 53, 54, 55, 56, 57]) l = runN digitZ l :=
  Go.X.runB_congr (q := fun c => digitZ (c.toNat : Int)) (Go.X.bytes_all (by decide +kernel)) l
theorem run_signs (l : List UInt8) : Go.X.runB (Go.X.inB [97, 98, 99, 100, 101, 102, 103, 104, 105, 106, 107, 108, 109, 110, 111, 112, 113, 114, 115, 116, 117, 118, 119, 120, 121, 122, 65, 66, 67, 68, 69, 70, 71, 72, 73, 74, 75, 76, 77, 78, 79, 80, 81, 82, 83, 84, 85, 86, 87, 88, 89, 90, 95, 48, 49, 50, 51, 52, 53, 54, 55, 56, 57]) l = runN wordZ l :=
  Go.X.runB_congr (q := fun c => wordZ (c.toNat : Int)) (Go.X.bytes_all (by decide +kernel)) l
theorem among_digits (s : ByteArray) (hs : s.size ≤ 1000000) (w : World) :
    Calls Tryz.prog 152 #[.string s, .string ⟨#[48, 49, 50, 51, 52, 53, 54, 55, 56, 57]⟩] w fun e w' => e = .returned (.int .i64 (runN digitZ s.data.toList)) ∧ w' = w := by
  rw [← run_digits]
  exact among_any s ⟨#[48, 49, 50, 51, 52, 53, 54, 55, 56, 57]⟩ hs w
theorem among_signs (s : ByteArray) (hs : s.size ≤ 1000000) (w : World) :
    Calls Tryz.prog 152 #[.string s, .string ⟨#[97, 98, 99, 100, 101, 102, 103, 104, 105, 106, 107, 108, 109, 110, 111, 112, 113, 114, 115, 116, 117, 118, 119, 120, 121, 122, 65, 66, 67, 68, 69, 70, 71, 72, 73, 74, 75, 76, 77, 78, 79, 80, 81, 82, 83, 84, 85, 86, 87, 88, 89, 90, 95, 48, 49, 50, 51, 52, 53, 54, 55, 56, 57]⟩] w fun e w' => e = .returned (.int .i64 (runN wordZ s.data.toList)) ∧ w' = w := by
  rw [← run_signs]
  exact among_any s ⟨#[97, 98, 99, 100, 101, 102, 103, 104, 105, 106, 107, 108, 109, 110, 111, 112, 113, 114, 115, 116, 117, 118, 119, 120, 121, 122, 65, 66, 67, 68, 69, 70, 71, 72, 73, 74, 75, 76, 77, 78, 79, 80, 81, 82, 83, 84, 85, 86, 87, 88, 89, 90, 95, 48, 49, 50, 51, 52, 53, 54, 55, 56, 57]⟩ hs w

theorem runN_at {p : Int → Bool} {l : List UInt8} {k : Nat} (h : k < runN p l) : ∃ c, l[k]? = some c ∧ p (c.toNat : Int) = true := by
  unfold runN at h
  obtain ⟨r, hr⟩ := List.takeWhile_prefix (fun c : UInt8 => p c.toNat) (l := l)
  obtain ⟨d, hd⟩ : ∃ d, (l.takeWhile fun c => p c.toNat)[k]? = some d := ⟨_, List.getElem?_eq_getElem h⟩
  refine ⟨d, ?_, ?_⟩
  · rw [← hr, List.getElem?_append_left h]
    exact hd
  · exact List.all_eq_true.1 (List.all_takeWhile (p := fun c : UInt8 => p c.toNat) (l := l)) d (List.mem_of_getElem? hd)
theorem digitZ_B (c : UInt8) : digitZ (c.toNat : Int) = Go.X.digB c := by
  unfold digitZ Go.X.digB
  rw [Bool.eq_iff_iff]
  simp
  omega
theorem numberR_none {s : ByteArray} (h : (match Lib.parseIntB 64 (s.extract 0 (runN digitZ s.data.toList)).data.toList with | .ok v => some v | _ => none) = none) : numberR s = (tok0, 0, 6) := by
  unfold numberR
  split
  · rename_i x hx
    rw [hx] at h
    cases h
  · rfl
theorem numberR_some {s : ByteArray} {v : Int} (h : (match Lib.parseIntB 64 (s.extract 0 (runN digitZ s.data.toList)).data.toList with | .ok v => some v | _ => none) = some v) :
    numberR s = if 1 < runN digitZ s.data.toList ∧ s.data.toList.head? = some 48 then (tok0, 0, 6) else ((⟨2, s.extract 0 (runN digitZ s.data.toList), v, 0⟩ : Tok), ((runN digitZ s.data.toList : Nat) : Int), (0 : Int)) := by
  unfold numberR
  split
  · rename_i x hx
    rw [hx] at h
    cases h
    rfl
  · rename_i hx
    split at h
    · rename_i x hx'
      exact absurd hx' (hx x)
    · cases h
theorem number_loop (s : ByteArray) (n : Nat) (hn : runN digitZ s.data.toList = n) (h1 : 1 ≤ n) :
    (Go.X.loopD (s.data.toList.take n) 0 = none → numberR s = (tok0, 0, 6)) ∧
    (∀ x : Nat, Go.X.loopD (s.data.toList.take n) 0 = some x → 9223372036854775807 < x → numberR s = (tok0, 0, 6)) ∧
    (∀ x : Nat, Go.X.loopD (s.data.toList.take n) 0 = some x → ¬ 9223372036854775807 < x → numberR s = if 1 < n ∧ s.data.toList.head? = some 48 then (tok0, 0, 6) else ((⟨2, s.extract 0 n, x, 0⟩ : Tok), (n : Int), (0 : Int))) := by
  have hd : (s.data.toList.take n).all Go.X.digB = true := by
    rw [List.all_eq_true]
    intro c hc
    obtain ⟨k, hk⟩ := List.mem_iff_getElem?.1 hc
    rw [List.getElem?_take] at hk
    split at hk
    · rename_i hkn
      obtain ⟨d, h2, h3⟩ := runN_at (p := digitZ) (l := s.data.toList) (k := k) (by omega)
      rw [h2] at hk
      cases hk
      rw [← digitZ_B]
      exact h3
    · cases hk
  have hne : s.data.toList.take n ≠ [] := by
    intro he
    have := congrArg List.length he
    rw [List.length_take, List.length_nil] at this
    have := runN_le digitZ s.data.toList
    omega
  have hp := Go.X.loop_parse _ hne hd
  have he : (s.extract 0 (runN digitZ s.data.toList)).data.toList = s.data.toList.take n := by
    rw [Lib.extract_data, hn]
    simp
  rw [← he] at hp
  refine ⟨fun h => ?_, fun x h hx => ?_, fun x h hx => ?_⟩
  · rw [he] at hp
    rw [h] at hp
    rw [← he] at hp
    exact numberR_none hp
  · rw [he] at hp
    rw [h] at hp
    simp only [Option.bind_some] at hp
    rw [if_pos hx] at hp
    rw [← he] at hp
    exact numberR_none hp
  · rw [he] at hp
    rw [h] at hp
    simp only [Option.bind_some] at hp
    rw [if_neg hx] at hp
    rw [← he] at hp
    have := numberR_some (v := (x : Int)) hp
    rw [hn] at this
    exact this

set_option maxHeartbeats 3200000 in
set_option maxRecDepth 1000000 in
theorem one21_number (s : ByteArray) (hs : s.size ≤ 1000000) (h1 : 0 < s.size) (hd : digitZ ((s[0]'h1).toNat : Int) = true) (w : World) :
    Calls Tryz.prog 107 #[.string s] w fun e w' => e = .returned (.tuple #[(numberR s).1.v, .int .i64 (numberR s).2.1, .int .i64 (numberR s).2.2]) ∧ Later w w' := by
  obtain ⟨n, hn⟩ : ∃ n, runN digitZ s.data.toList = n := ⟨_, rfl⟩
  have hle : n ≤ s.size := by rw [← hn, Lib.size_eq]; exact runN_le _ _
  have hn1 : 1 ≤ n := by rw [← hn]; exact runN_pos _ _ _ (by rw [List.head?_eq_getElem?]; exact byte_at s 0 h1) hd
  have HAT : Aside (∀ k, k < n → ∃ c, s.data.toList[k]? = some c ∧ Go.X.digB c = true) := fun k hk => by
    obtain ⟨c, h2, h3⟩ := runN_at (p := digitZ) (l := s.data.toList) (k := k) (by omega)
    exact ⟨c, h2, by rw [← digitZ_B]; exact h3⟩
  obtain ⟨l1, l2, l3⟩ := number_loop s n hn hn1
  have L1 : Aside (Go.X.loopD (s.data.toList.take n) 0 = none → numberR s = (tok0, 0, 6)) := l1
  have L2 : Aside (∀ x : Nat, Go.X.loopD (s.data.toList.take n) 0 = some x → 9223372036854775807 < x → numberR s = (tok0, 0, 6)) := l2
  have L3 : Aside (∀ x : Nat, Go.X.loopD (s.data.toList.take n) 0 = some x → ¬ 9223372036854775807 < x → numberR s = if 1 < n ∧ s.data.toList.head? = some 48 then (tok0, 0, 6) else ((⟨2, s.extract 0 n, x, 0⟩ : Tok), (n : Int), (0 : Int))) := l3
  have HAM : Aside (∀ w, Calls Tryz.prog 152 #[.string s, .string ⟨#[48, 49, 50, 51, 52, 53, 54, 55, 56, 57]⟩] w fun e w' => e = .returned (.int .i64 n) ∧ w' = w) := fun w => by
    have := among_digits s hs w
    rw [hn] at this
    exact this
  clear l1 l2 l3 hn hd
  go_enter Tryz.func107, Tryz.ntmps107
  go_wp2_with (go_at_call 152; (with_reducible refine Calls.mono (HAM.out _) ?_); rintro e w1 ⟨rfl, rfl⟩)
  go_loopg [6, 20] n (fun g xv i wr => ∃ (k x : Nat), k + g = n ∧ i = .int .i64 k ∧ xv = .int .u64 x ∧ x ≤ 9223372036854775809 ∧ Aside (Later w wr) ∧ Aside (Four wr w.heap.size (.int .i64 0) (.string ⟨#[]⟩) (.int .i64 0) (.int .i64 0)) ∧
    Aside (Go.X.loopD (s.data.toList.take n) 0 = Go.X.loopD ((s.data.toList.take n).drop k) x))
  case atStart => exact ⟨0, 0, by omega, rfl, rfl, by omega, (Below.refl _ w).alloc (Nat.le_refl _) _, Four.new w _ _ _ _ _, rfl⟩
  case round =>
    obtain ⟨k, x, hk, rfl, rfl, hx9, HL, H4, HLP⟩ := hrel
    obtain ⟨⟨c0, c1, c2, c3⟩, f0, f1, f2, f3⟩ := id H4.out
    by_cases hlt : k < n
    · obtain ⟨c, hc, hcd⟩ := HAT.out k hlt
      have hks : k < s.size := by omega
      have hcb : s[k]'hks = c := by
        have := byte_at s k hks
        rw [hc] at this
        exact (Option.some.inj this).symm
      have HST : Aside (Go.X.loopD ((s.data.toList.take n).drop k) x = if 922337203685477580 < x then none else Go.X.loopD ((s.data.toList.take n).drop (k + 1)) (10 * x + (c.toNat - 48))) := by
        show _ = _
        rw [Lib.drop_at (l := s.data.toList.take n) (k := k) (by rw [List.getElem?_take, if_pos hlt]; exact hc)]
        first | done | rfl
      have hc48 : 48 ≤ c.toNat ∧ c.toNat ≤ 57 := by
        unfold Go.X.digB at hcd
        simpa using hcd
      obtain ⟨hc1, hc2⟩ := hc48
      clear hc hcd
      by_cases hbig : 922337203685477580 < x
      · have HR : Aside (numberR s = (tok0, 0, 6)) := L1.out (by rw [HLP.out, HST.out, if_pos hbig])
        go_wp2
        refine ret_tok rfl rfl H4.out rfl ⟨?_, below_put4 HL.out (Nat.le_refl _) _ _ _ _⟩
        rw [HR.out]
        try rfl
      · go_wp2
        go_roundg (gk - 1)
        case measure => omega
        case rel => exact ⟨k + 1, 10 * x + (c.toNat - 48), by omega, by go_num, by go_num, by omega, HL.out, H4.out, by show _ = _; rw [HLP.out, HST.out, if_neg hbig]⟩
    · have hkn : k = n := by omega
      have HEND : Aside (Go.X.loopD (s.data.toList.take n) 0 = some x) := by
        show _ = _
        rw [HLP.out, List.drop_eq_nil_of_le (by rw [List.length_take]; omega)]
        first | done | rfl
      clear hkn
      by_cases hbig : 9223372036854775807 < x
      · have HR : Aside (numberR s = (tok0, 0, 6)) := L2.out x HEND.out hbig
        go_wp2
        refine ret_tok rfl rfl H4.out rfl ⟨?_, below_put4 HL.out (Nat.le_refl _) _ _ _ _⟩
        rw [HR.out]
        try rfl
      · have HR : Aside _ := L3.out x HEND.out hbig
        by_cases hz : 1 < n ∧ ((s[0]'h1).toNat : Int) = 48
        · obtain ⟨hz1, hz2⟩ := hz
          have HR2 : Aside (numberR s = (tok0, 0, 6)) := by show _ = _; rw [HR.out, if_pos ⟨hz1, (head_is s h1 48).2 hz2⟩]
          have hz3 : (((s[0]'h1).toNat : Int) == 48) = true := by simp only [beq_iff_eq]; exact hz2
          clear hz2
          go_wp2
          refine ret_tok rfl rfl H4.out rfl ⟨?_, below_put4 HL.out (Nat.le_refl _) _ _ _ _⟩
          rw [HR2.out]
          try rfl
        · have HR2 : Aside (numberR s = (⟨2, s.extract 0 n, x, 0⟩, (n : Int), 0)) := by show _ = _; rw [HR.out, if_neg (fun h => hz ⟨h.1, (head_is s h1 48).1 h.2⟩)]
          go_wp2
          all_goals first
            | (exfalso; apply hz; constructor <;> first | omega | (simp only [beq_iff_eq] at *; omega))
            | skip
          all_goals (
            refine ret_tok rfl rfl H4.out rfl ⟨?_, below_put4 HL.out (Nat.le_refl _) _ _ _ _⟩
            rw [HR2.out]
            try rfl)

set_option maxHeartbeats 1600000 in
set_option maxRecDepth 1000000 in
theorem one21_word (s : ByteArray) (hs : s.size ≤ 1000000) (h1 : 0 < s.size) (hd : digitZ ((s[0]'h1).toNat : Int) = false) (hw : wordZ ((s[0]'h1).toNat : Int) = true) (w : World) :
    Calls Tryz.prog 107 #[.string s] w fun e w' => e = .returned (.tuple #[(⟨1, s.extract 0 (runN wordZ s.data.toList), 0, 0⟩ : Tok).v, .int .i64 (runN wordZ s.data.toList), .int .i64 0]) ∧ Later w w' := by
  have HD0 : runN digitZ s.data.toList = 0 := by
    have := runN_stop digitZ s.data.toList 0 _ (byte_at s 0 h1) hd
    simpa using this
  obtain ⟨n, hn⟩ : ∃ n, runN wordZ s.data.toList = n := ⟨_, rfl⟩
  have hle : n ≤ s.size := by rw [← hn, Lib.size_eq]; exact runN_le _ _
  have hn1 : 1 ≤ n := by rw [← hn]; exact runN_pos _ _ _ (by rw [List.head?_eq_getElem?]; exact byte_at s 0 h1) hw
  have HAM : Aside (∀ w, Calls Tryz.prog 152 #[.string s, .string ⟨#[48, 49, 50, 51, 52, 53, 54, 55, 56, 57]⟩] w fun e w' => e = .returned (.int .i64 0) ∧ w' = w) := fun w => by
    have := among_digits s hs w
    rw [HD0] at this
    exact this
  have HAS : Aside (∀ w, Calls Tryz.prog 152 #[.string s, .string ⟨#[97, 98, 99, 100, 101, 102, 103, 104, 105, 106, 107, 108, 109, 110, 111, 112, 113, 114, 115, 116, 117, 118, 119, 120, 121, 122, 65, 66, 67, 68, 69, 70, 71, 72, 73, 74, 75, 76, 77, 78, 79, 80, 81, 82, 83, 84, 85, 86, 87, 88, 89, 90, 95, 48, 49, 50, 51, 52, 53, 54, 55, 56, 57]⟩] w fun e w' => e = .returned (.int .i64 n) ∧ w' = w) := fun w => by
    have := among_signs s hs w
    rw [hn] at this
    exact this
  rw [hn]
  clear hn hd hw HD0
  go_enter Tryz.func107, Tryz.ntmps107
  go_wp2_with (first
    | (go_at_call 152; (with_reducible refine Calls.mono (HAM.out _) ?_); rintro e w1 ⟨rfl, rfl⟩)
    | (go_at_call 152; (with_reducible refine Calls.mono (HAS.out _) ?_); rintro e w1 ⟨rfl, rfl⟩))
  refine ret_tok_new rfl rfl rfl ⟨?_, (Below.refl _ w).alloc (Nat.le_refl _) _⟩
  try rfl
end Go.Proofs.YtlkhkalniekaoaaGreatDoor
end

section
/- The reference's one token: a text, a sign; at every text. -/
namespace Go.Proofs.YtlkhkalniekaoaaGreatDoor
open Go.RowKit Go.Shelf Go.Sort Go.Lib

theorem bytes_app (a b : ByteArray) : (a ++ b).data.toList = a.data.toList ++ b.data.toList := by
  rw [ByteArray.data_append, Array.toList_append]
theorem app_one (a : ByteArray) (b : UInt8) : (a ++ (⟨#[b]⟩ : ByteArray)).size = a.size + 1 := by
  rw [ByteArray.size_append]
  first | done | rfl
theorem mk_back (a : ByteArray) : (⟨a.data.toList.toArray⟩ : ByteArray) = a := by
  obtain ⟨⟨l⟩⟩ := a
  rfl
theorem cut_one (s : ByteArray) (k : Nat) (c : UInt8) (h : s.data.toList[k]? = some c) : (s.extract k (k + 1)).data.toList = [c] := by
  rw [Lib.extract_data, Lib.drop_at h, Nat.add_sub_cancel_left]
  first | done | rfl

theorem not_word (s : ByteArray) (hs : s.size ≤ 1000000) (h1 : 0 < s.size) (hw : wordZ ((s[0]'h1).toNat : Int) = false) :
    (∀ w, Calls Tryz.prog 152 #[.string s, .string ⟨#[48, 49, 50, 51, 52, 53, 54, 55, 56, 57]⟩] w fun e w' => e = .returned (.int .i64 0) ∧ w' = w) ∧
    (∀ w, Calls Tryz.prog 152 #[.string s, .string ⟨#[97, 98, 99, 100, 101, 102, 103, 104, 105, 106, 107, 108, 109, 110, 111, 112, 113, 114, 115, 116, 117, 118, 119, 120, 121, 122, 65, 66, 67, 68, 69, 70, 71, 72, 73, 74, 75, 76, 77, 78, 79, 80, 81, 82, 83, 84, 85, 86, 87, 88, 89, 90, 95, 48, 49, 50, 51, 52, 53, 54, 55, 56, 57]⟩] w fun e w' => e = .returned (.int .i64 0) ∧ w' = w) := by
  have hd : digitZ ((s[0]'h1).toNat : Int) = false := by
    unfold wordZ at hw
    unfold digitZ
    simp only [Bool.or_eq_false_iff] at hw
    exact hw.2
  refine ⟨fun w => ?_, fun w => ?_⟩
  · have := among_digits s hs w
    rw [show runN digitZ s.data.toList = 0 by have := runN_stop digitZ s.data.toList 0 _ (byte_at s 0 h1) hd; simpa using this] at this
    exact this
  · have := among_signs s hs w
    rw [show runN wordZ s.data.toList = 0 by have := runN_stop wordZ s.data.toList 0 _ (byte_at s 0 h1) hw; simpa using this] at this
    exact this

set_option maxHeartbeats 4000000 in
set_option maxRecDepth 1000000 in
theorem one21_text (s : ByteArray) (hs : s.size ≤ 1000000) (h1 : 0 < s.size) (h34 : (s[0]'h1).toNat = 34) (w : World) :
    Calls Tryz.prog 107 #[.string s] w fun e w' => e = .returned (.tuple #[(quotedR s).1.v, .int .i64 (quotedR s).2.1, .int .i64 (quotedR s).2.2]) ∧ Later w w' := by
  have hR : Hid (quotedR s = match quotedS (s.data.toList.drop 1) [] 1 with | some (t, n) => (⟨3, ⟨t.toArray⟩, 0, 0⟩, n, 0) | none => (tok0, 0, 1)) := rfl
  obtain ⟨m1, m2⟩ := not_word s hs h1 (by rw [h34]; decide)
  have HAM : Aside (∀ w, Calls Tryz.prog 152 #[.string s, .string ⟨#[48, 49, 50, 51, 52, 53, 54, 55, 56, 57]⟩] w fun e w' => e = .returned (.int .i64 0) ∧ w' = w) := m1
  have HAS : Aside (∀ w, Calls Tryz.prog 152 #[.string s, .string ⟨#[97, 98, 99, 100, 101, 102, 103, 104, 105, 106, 107, 108, 109, 110, 111, 112, 113, 114, 115, 116, 117, 118, 119, 120, 121, 122, 65, 66, 67, 68, 69, 70, 71, 72, 73, 74, 75, 76, 77, 78, 79, 80, 81, 82, 83, 84, 85, 86, 87, 88, 89, 90, 95, 48, 49, 50, 51, 52, 53, 54, 55, 56, 57]⟩] w fun e w' => e = .returned (.int .i64 0) ∧ w' = w) := m2
  have h340 : (((s[0]'h1).toNat : Int) == 34) = true := by simp only [beq_iff_eq]; omega
  clear m1 m2 h34
  go_enter Tryz.func107, Tryz.ntmps107
  go_wp2_with (first
    | (go_at_call 152; (with_reducible refine Calls.mono (HAM.out _) ?_); rintro e w1 ⟨rfl, rfl⟩)
    | (go_at_call 152; (with_reducible refine Calls.mono (HAS.out _) ?_); rintro e w1 ⟨rfl, rfl⟩))
  go_loopg [9, 10] (s.size - 1) (fun g tv i wr => ∃ (k : Nat) (acc : ByteArray), k + g = s.size ∧ i = .int .i64 k ∧ tv = .string acc ∧ acc.size ≤ k ∧
      Aside (Later w wr) ∧ Aside (Four wr w.heap.size (.int .i64 0) (.string ⟨#[]⟩) (.int .i64 0) (.int .i64 0)) ∧ Aside (quotedS (s.data.toList.drop 1) [] 1 = quotedS (s.data.toList.drop k) acc.data.toList k))
  case atStart => exact ⟨1, ⟨#[]⟩, by omega, rfl, rfl, by decide, (Below.refl _ w).alloc (Nat.le_refl _) _, Four.new w _ _ _ _ _, rfl⟩
  case round =>
    obtain ⟨k, acc, hk, rfl, rfl, hal, HL, H4, HA⟩ := hrel
    obtain ⟨⟨c0, c1, c2, c3⟩, f0, f1, f2, f3⟩ := id H4.out
    by_cases hlt : k < s.size
    · have HQ : Aside _ := quoted_step s.data.toList acc.data.toList k _ (byte_at s k hlt)
      obtain ⟨c, hcb⟩ : ∃ c, s[k]'hlt = c := ⟨_, rfl⟩
      rw [hcb] at HQ
      have HC : Aside (s.data.toList[k]? = some c) := by rw [← hcb]; exact byte_at s k hlt
      by_cases e34 : c.toNat = 34
      · have b34 : ((c.toNat : Int) == 34) = true := by simp only [beq_iff_eq]; omega
        have HR2 : Aside (quotedR s = (⟨3, acc, 0, 0⟩, ((k + 1 : Nat) : Int), 0)) := by
          show _ = _
          have h := quoted_some hR (HA.out.trans (HQ.out.trans (by rw [if_pos e34])))
          rw [mk_back] at h
          exact h
        clear e34
        go_wp2
        refine ret_tok rfl rfl H4.out rfl ⟨?_, below_put4 HL.out (Nat.le_refl _) _ _ _ _⟩
        rw [HR2.out]
        try rfl
      · have b34 : ((c.toNat : Int) == 34) = false := by simp only [beq_eq_false_iff_ne]; omega
        by_cases e92 : c.toNat = 92
        · have b92 : ((c.toNat : Int) == 92) = true := by simp only [beq_iff_eq]; omega
          by_cases hk1 : k + 1 < s.size
          · obtain ⟨d, hdb⟩ : ∃ d, s[k + 1]'hk1 = d := ⟨_, rfl⟩
            have HD : Aside (s.data.toList[k + 1]? = some d) := by rw [← hdb]; exact byte_at s (k + 1) hk1
            have HQ2 : Aside (quotedS (s.data.toList.drop k) acc.data.toList k = if d.toNat = 34 ∨ d.toNat = 92 then quotedS (s.data.toList.drop (k + 2)) (acc.data.toList ++ [d]) (k + 2) else if d.toNat = 110 then quotedS (s.data.toList.drop (k + 2)) (acc.data.toList ++ [10]) (k + 2) else none) := by
              show _ = _
              rw [HQ.out, if_neg e34, if_pos e92, HD.out]
            have hub := u8_back d
            by_cases d34 : d.toNat = 34
            · have hd : d = 34 := UInt8.toNat_inj.1 d34
              have HI : Aside (∀ w, Calls Tryz.prog 106 #[.string ⟨#[34, 92, 110]⟩, .int .u8 d.toNat] w fun e w' => e = .returned (.int .i64 0) ∧ w' = w) := fun w => by
                have := Tryz.strings_IndexByte ⟨#[34, 92, 110]⟩ d.toNat w
                rw [hub, hd] at this
                rw [hd]
                exact this
              have HA3 : Aside (quotedS (s.data.toList.drop 1) [] 1 = quotedS (s.data.toList.drop (k + 2)) (acc ++ (⟨#[34]⟩ : ByteArray)).data.toList (k + 2)) := by
                show _ = _
                rw [HA.out, HQ2.out, if_pos (.inl d34), bytes_app, hd]
                first | done | rfl
              clear d34 e34 e92 hub hd
              go_wp2_with (go_at_call 106; (with_reducible refine Calls.mono (HI.out _) ?_); rintro e w1 ⟨rfl, rfl⟩)
              go_roundg (gk - 2)
              case measure => omega
              case rel => exact ⟨k + 2, acc ++ (⟨#[34]⟩ : ByteArray), by omega, by go_num, rfl, by rw [app_one]; omega, HL.out, H4.out, HA3.out⟩
            · by_cases d92 : d.toNat = 92
              · have hd : d = 92 := UInt8.toNat_inj.1 d92
                have HI : Aside (∀ w, Calls Tryz.prog 106 #[.string ⟨#[34, 92, 110]⟩, .int .u8 d.toNat] w fun e w' => e = .returned (.int .i64 1) ∧ w' = w) := fun w => by
                  have := Tryz.strings_IndexByte ⟨#[34, 92, 110]⟩ d.toNat w
                  rw [hub, hd] at this
                  rw [hd]
                  exact this
                have HA3 : Aside (quotedS (s.data.toList.drop 1) [] 1 = quotedS (s.data.toList.drop (k + 2)) (acc ++ (⟨#[92]⟩ : ByteArray)).data.toList (k + 2)) := by
                  show _ = _
                  rw [HA.out, HQ2.out, if_pos (.inr d92), bytes_app, hd]
                  first | done | rfl
                clear d34 d92 e34 e92 hub hd
                go_wp2_with (go_at_call 106; (with_reducible refine Calls.mono (HI.out _) ?_); rintro e w1 ⟨rfl, rfl⟩)
                go_roundg (gk - 2)
                case measure => omega
                case rel => exact ⟨k + 2, acc ++ (⟨#[92]⟩ : ByteArray), by omega, by go_num, rfl, by rw [app_one]; omega, HL.out, H4.out, HA3.out⟩
              · by_cases d110 : d.toNat = 110
                · have hd : d = 110 := UInt8.toNat_inj.1 d110
                  have HI : Aside (∀ w, Calls Tryz.prog 106 #[.string ⟨#[34, 92, 110]⟩, .int .u8 d.toNat] w fun e w' => e = .returned (.int .i64 2) ∧ w' = w) := fun w => by
                    have := Tryz.strings_IndexByte ⟨#[34, 92, 110]⟩ d.toNat w
                    rw [hub, hd] at this
                    rw [hd]
                    exact this
                  have HA3 : Aside (quotedS (s.data.toList.drop 1) [] 1 = quotedS (s.data.toList.drop (k + 2)) (acc ++ (⟨#[10]⟩ : ByteArray)).data.toList (k + 2)) := by
                    show _ = _
                    rw [HA.out, HQ2.out, if_neg (by omega), if_pos d110, bytes_app]
                  clear d34 d92 d110 e34 e92 hub hd
                  go_wp2_with (go_at_call 106; (with_reducible refine Calls.mono (HI.out _) ?_); rintro e w1 ⟨rfl, rfl⟩)
                  go_roundg (gk - 2)
                  case measure => omega
                  case rel => exact ⟨k + 2, acc ++ (⟨#[10]⟩ : ByteArray), by omega, by go_num, rfl, by rw [app_one]; omega, HL.out, H4.out, HA3.out⟩
                · have HI : Aside (∀ w, Calls Tryz.prog 106 #[.string ⟨#[34, 92, 110]⟩, .int .u8 d.toNat] w fun e w' => e = .returned (.int .i64 (-1)) ∧ w' = w) := fun w => by
                    have := Tryz.strings_IndexByte ⟨#[34, 92, 110]⟩ d.toNat w
                    have hi : Lib.indexByte (⟨#[34, 92, 110]⟩ : ByteArray).data.toList d = -1 := by
                      have n1 : ((34 : UInt8) == d) = false := by simp only [beq_eq_false_iff_ne]; rintro rfl; exact d34 rfl
                      have n2 : ((92 : UInt8) == d) = false := by simp only [beq_eq_false_iff_ne]; rintro rfl; exact d92 rfl
                      have n3 : ((110 : UInt8) == d) = false := by simp only [beq_eq_false_iff_ne]; rintro rfl; exact d110 rfl
                      show Lib.indexByte [34, 92, 110] d = -1
                      simp [Lib.indexByte, n1, n2, n3]
                    rw [hub, hi] at this
                    exact this
                  have HR2 : Aside (quotedR s = (tok0, 0, 1)) := quoted_none hR (HA.out.trans (HQ2.out.trans (by rw [if_neg (by omega), if_neg d110])))
                  clear d34 d92 d110 e34 e92 hub
                  go_wp2_with (go_at_call 106; (with_reducible refine Calls.mono (HI.out _) ?_); rintro e w1 ⟨rfl, rfl⟩)
                  refine ret_tok rfl rfl H4.out rfl ⟨?_, below_put4 HL.out (Nat.le_refl _) _ _ _ _⟩
                  rw [HR2.out]
                  try rfl
          · have HR2 : Aside (quotedR s = (tok0, 0, 1)) := by
              have hk1' : s.data.toList[k + 1]? = none := by rw [List.getElem?_eq_none_iff, ← Lib.size_eq]; omega
              exact quoted_none hR (HA.out.trans (HQ.out.trans (by rw [hk1', if_neg e34, if_pos e92])))
            clear e34 e92
            go_wp2
            refine ret_tok rfl rfl H4.out rfl ⟨?_, below_put4 HL.out (Nat.le_refl _) _ _ _ _⟩
            rw [HR2.out]
            try rfl
        · have b92 : ((c.toNat : Int) == 92) = false := by simp only [beq_eq_false_iff_ne]; omega
          by_cases hr : c.toNat < 32 ∨ 126 < c.toNat
          · have HR2 : Aside (quotedR s = (tok0, 0, 1)) := quoted_none hR (HA.out.trans (HQ.out.trans (by rw [if_neg e34, if_neg e92, if_pos hr])))
            clear e34 e92
            go_wp2
            all_goals first
              | (exfalso; omega)
              | (refine ret_tok rfl rfl H4.out rfl ⟨?_, below_put4 HL.out (Nat.le_refl _) _ _ _ _⟩
                 rw [HR2.out]
                 try rfl)
          · have HA3 : Aside (quotedS (s.data.toList.drop 1) [] 1 = quotedS (s.data.toList.drop (k + 1)) (acc ++ s.extract k (k + 1)).data.toList (k + 1)) := by
              show _ = _
              rw [HA.out, HQ.out, if_neg e34, if_neg e92, if_neg hr, bytes_app, cut_one s k c HC.out]
            obtain ⟨hr1, hr2⟩ : 32 ≤ c.toNat ∧ c.toNat ≤ 126 := by omega
            clear hr e34 e92
            go_wp2
            go_roundg (gk - 1)
            case measure => omega
            case rel => exact ⟨k + 1, acc ++ s.extract k (k + 1), by omega, by go_num, rfl, by simp [ByteArray.size_append]; omega, HL.out, H4.out, HA3.out⟩
    · have HR2 : Aside (quotedR s = (tok0, 0, 1)) := quoted_none hR (HA.out.trans (by rw [List.drop_eq_nil_of_le (by rw [← Lib.size_eq]; omega)]; first | done | rfl))
      go_wp2
      refine ret_tok rfl rfl H4.out rfl ⟨?_, below_put4 HL.out (Nat.le_refl _) _ _ _ _⟩
      rw [HR2.out]
      try rfl
end Go.Proofs.YtlkhkalniekaoaaGreatDoor
end

section
/- The reference's one token: a sign; at every text. -/
namespace Go.Proofs.YtlkhkalniekaoaaGreatDoor
open Go.RowKit Go.Shelf Go.Sort Go.Lib

def signTab : List ByteArray := [⟨#[61, 61]⟩, ⟨#[33, 61]⟩, ⟨#[40]⟩, ⟨#[41]⟩, ⟨#[123]⟩, ⟨#[125]⟩, ⟨#[91]⟩, ⟨#[93]⟩, ⟨#[59]⟩, ⟨#[44]⟩, ⟨#[58]⟩, ⟨#[46]⟩, ⟨#[61]⟩, ⟨#[60]⟩, ⟨#[43]⟩, ⟨#[45]⟩, ⟨#[42]⟩, ⟨#[33]⟩]
theorem index_mem (c : UInt8) : ∀ l : List UInt8, 0 ≤ Lib.indexByte l c ↔ c ∈ l
  | [] => by simp [Lib.indexByte]
  | b :: l => by
    have ih := index_mem c l
    have hge := Lib.indexByte_ge l c
    unfold Lib.indexByte
    by_cases hb : b = c
    · subst hb
      simp
    · rw [if_neg (by simpa using hb)]
      have hb' : ¬ c = b := fun h => hb h.symm
      simp only [List.mem_cons, hb', false_or]
      rw [← ih]
      split
      · rename_i h
        have := beq_iff_eq.1 h
        omega
      · rename_i h
        have : Lib.indexByte l c ≠ -1 := fun h' => h (beq_iff_eq.2 h')
        omega
theorem one_prefix {s : ByteArray} {c b : UInt8} (hc : s.data.toList.head? = some c) : Lib.hasPrefix s.data.toList [b] = true ↔ c = b := by
  rw [Go.X.prefix_head, hc, Option.some.injEq]
theorem prefix_cut {s x : ByteArray} (h : Lib.hasPrefix s.data.toList x.data.toList = true) : s.extract 0 x.size = x := by
  obtain ⟨r, hr⟩ := List.isPrefixOf_iff_prefix.1 h
  rw [Lib.extract_eq, ← hr, Lib.size_eq]
  simp only [List.drop_zero, Nat.sub_zero, List.take_left]
  first | done | exact mk_back x
theorem sign_hit {s : ByteArray} {c : UInt8} {k : Nat} {x : ByteArray} (hc : s.data.toList.head? = some c) (hk : signTab[k]? = some x) (hp : Lib.hasPrefix s.data.toList x.data.toList = true)
    (hno : ∀ j y, j < k → signTab[j]? = some y → Lib.hasPrefix s.data.toList y.data.toList = false) (h1 : wordZ c.toNat = false) (h3 : ¬ c.toNat = 34) : oneR s c = ((⟨4, x, 0, 0⟩ : Tok), (x.size : Int), (0 : Int)) := by
  have hl : letterZ c.toNat = false := by unfold wordZ at h1; simp only [Bool.or_eq_false_iff] at h1; exact h1.1
  have hd : digitZ c.toNat = false := by unfold wordZ at h1; unfold digitZ; simp only [Bool.or_eq_false_iff] at h1; exact h1.2
  have hx := prefix_cut hp
  unfold oneR
  rw [if_neg (by simp [hl]), if_neg (by simp [hd]), if_neg h3]
  match k, hk, hno with
  | 0, hk, _ =>
    cases hk
    have hp' : Lib.hasPrefix s.data.toList [61, 61] = true := hp
    rw [if_pos (by simp [hp'])]
    exact congrArg (fun t => ((⟨4, t, 0, 0⟩ : Tok), (2 : Int), (0 : Int))) hx
  | 1, hk, _ =>
    cases hk
    have hp' : Lib.hasPrefix s.data.toList [33, 61] = true := hp
    rw [if_pos (by simp [hp'])]
    exact congrArg (fun t => ((⟨4, t, 0, 0⟩ : Tok), (2 : Int), (0 : Int))) hx
  | k + 2, hk, hno =>
    have q0 : Lib.hasPrefix s.data.toList [61, 61] = false := hno 0 _ (by omega) rfl
    have q1 : Lib.hasPrefix s.data.toList [33, 61] = false := hno 1 _ (by omega) rfl
    have hm : x ∈ signTab.drop 2 := List.mem_of_getElem? (i := k) (by rw [List.getElem?_drop, Nat.add_comm]; exact hk)
    have hm2 : x ∈ signs.data.toList.map fun b => (⟨#[b]⟩ : ByteArray) := hm
    obtain ⟨b, hb, rfl⟩ := List.mem_map.1 hm2
    have hcb : c = b := (one_prefix hc).1 hp
    rw [if_neg (by simp [q0, q1]), if_pos (by rw [hcb]; exact (index_mem b _).2 hb)]
    exact congrArg (fun t => ((⟨4, t, 0, 0⟩ : Tok), (1 : Int), (0 : Int))) hx
theorem sign_miss {s : ByteArray} {c : UInt8} (hc : s.data.toList.head? = some c)
    (hno : ∀ (j : Nat) y, j < 18 → signTab[j]? = some y → Lib.hasPrefix s.data.toList y.data.toList = false) (h1 : wordZ c.toNat = false) (h3 : ¬ c.toNat = 34) : oneR s c = (tok0, 0, 1) := by
  have hl : letterZ c.toNat = false := by unfold wordZ at h1; simp only [Bool.or_eq_false_iff] at h1; exact h1.1
  have hd : digitZ c.toNat = false := by unfold wordZ at h1; unfold digitZ; simp only [Bool.or_eq_false_iff] at h1; exact h1.2
  have q0 : Lib.hasPrefix s.data.toList [61, 61] = false := hno 0 _ (by omega) rfl
  have q1 : Lib.hasPrefix s.data.toList [33, 61] = false := hno 1 _ (by omega) rfl
  unfold oneR
  rw [if_neg (by simp [hl]), if_neg (by simp [hd]), if_neg h3, if_neg (by simp [q0, q1]), if_neg]
  rw [index_mem]
  intro hm
  have hm2 : (⟨#[c]⟩ : ByteArray) ∈ signs.data.toList.map fun b => (⟨#[b]⟩ : ByteArray) := List.mem_map_of_mem hm
  have hm3 : (⟨#[c]⟩ : ByteArray) ∈ signTab.drop 2 := hm2
  obtain ⟨j, hj⟩ := List.mem_iff_getElem?.1 hm3
  rw [List.getElem?_drop] at hj
  have hj18 : 2 + j < 18 := (List.getElem?_eq_some_iff.1 hj).1
  have := hno (2 + j) _ hj18 hj
  have hp : Lib.hasPrefix s.data.toList [c] = true := (one_prefix hc).2 rfl
  rw [show (⟨#[c]⟩ : ByteArray).data.toList = [c] from rfl, hp] at this
  cases this

set_option maxHeartbeats 4000000 in
set_option maxRecDepth 1000000 in
theorem one21_sign (s : ByteArray) (hs : s.size ≤ 1000000) (h1 : 0 < s.size) (hw : wordZ ((s[0]'h1).toNat : Int) = false) (h34 : ¬ (s[0]'h1).toNat = 34) (w : World) :
    Calls Tryz.prog 107 #[.string s] w fun e w' => e = .returned (.tuple #[(oneR s (s[0]'h1)).1.v, .int .i64 (oneR s (s[0]'h1)).2.1, .int .i64 (oneR s (s[0]'h1)).2.2]) ∧ Later w w' := by
  obtain ⟨m1, m2⟩ := not_word s hs h1 hw
  have HAM : Aside (∀ w, Calls Tryz.prog 152 #[.string s, .string ⟨#[48, 49, 50, 51, 52, 53, 54, 55, 56, 57]⟩] w fun e w' => e = .returned (.int .i64 0) ∧ w' = w) := m1
  have HAS : Aside (∀ w, Calls Tryz.prog 152 #[.string s, .string ⟨#[97, 98, 99, 100, 101, 102, 103, 104, 105, 106, 107, 108, 109, 110, 111, 112, 113, 114, 115, 116, 117, 118, 119, 120, 121, 122, 65, 66, 67, 68, 69, 70, 71, 72, 73, 74, 75, 76, 77, 78, 79, 80, 81, 82, 83, 84, 85, 86, 87, 88, 89, 90, 95, 48, 49, 50, 51, 52, 53, 54, 55, 56, 57]⟩] w fun e w' => e = .returned (.int .i64 0) ∧ w' = w) := m2
  have h340 : (((s[0]'h1).toNat : Int) == 34) = false := by simp only [beq_eq_false_iff_ne]; omega
  obtain ⟨c, hcb⟩ : ∃ c, s[0]'h1 = c := ⟨_, rfl⟩
  rw [hcb] at hw h34 h340 ⊢
  have HH : Aside (s.data.toList.head? = some c) := by
    show _ = _
    rw [List.head?_eq_getElem?, byte_at s 0 h1, hcb]
  have HW : Aside (wordZ c.toNat = false) := hw
  have H34 : Aside (¬ c.toNat = 34) := h34
  clear m1 m2 hw h34
  go_enter Tryz.func107, Tryz.ntmps107
  go_wp2_with (first
    | (go_at_call 152; (with_reducible refine Calls.mono (HAM.out _) ?_); rintro e w1 ⟨rfl, rfl⟩)
    | (go_at_call 152; (with_reducible refine Calls.mono (HAS.out _) ?_); rintro e w1 ⟨rfl, rfl⟩))
  go_loopg [117] 18 (fun g i wr => ∃ k : Nat, k + g = 18 ∧ i = .int .i64 k ∧ Aside (Later w wr) ∧ Aside (Four wr w.heap.size (.int .i64 0) (.string ⟨#[]⟩) (.int .i64 0) (.int .i64 0)) ∧
    Aside (∀ (j : Nat) (x : ByteArray), signTab[j]? = some x → wr.cell? ⟨w.heap.size + 1, j, none⟩ = some (.string x)) ∧ Aside (∀ (j : Nat) y, j < k → signTab[j]? = some y → Lib.hasPrefix s.data.toList y.data.toList = false))
  case atStart =>
    refine ⟨0, by omega, rfl, ((Below.refl _ w).alloc (Nat.le_refl _) _).alloc (by simp) _, (Four.new w _ _ _ _ _).later ((Below.refl _ _).alloc (Nat.le_refl _) _) (by simp), ?_, fun j y hj => absurd hj (Nat.not_lt_zero _)⟩
    intro j x hx
    rw [World.cell?_alloc_at _ _ _ _ (by simp)]
    have hj : j < 18 := (List.getElem?_eq_some_iff.1 hx).1
    match j, hj, hx with
    | 0, _, hx => cases hx; rfl
    | 1, _, hx => cases hx; rfl
    | 2, _, hx => cases hx; rfl
    | 3, _, hx => cases hx; rfl
    | 4, _, hx => cases hx; rfl
    | 5, _, hx => cases hx; rfl
    | 6, _, hx => cases hx; rfl
    | 7, _, hx => cases hx; rfl
    | 8, _, hx => cases hx; rfl
    | 9, _, hx => cases hx; rfl
    | 10, _, hx => cases hx; rfl
    | 11, _, hx => cases hx; rfl
    | 12, _, hx => cases hx; rfl
    | 13, _, hx => cases hx; rfl
    | 14, _, hx => cases hx; rfl
    | 15, _, hx => cases hx; rfl
    | 16, _, hx => cases hx; rfl
    | 17, _, hx => cases hx; rfl
  case round =>
    obtain ⟨k, hk, rfl, HL, H4, HX, HN⟩ := hrel
    obtain ⟨⟨c0, c1, c2, c3⟩, f0, f1, f2, f3⟩ := id H4.out
    by_cases hlt : k < 18
    · obtain ⟨x, hx⟩ : ∃ x, signTab[k]? = some x := ⟨_, List.getElem?_eq_getElem hlt⟩
      have HX1 : Aside (signTab[k]? = some x) := hx
      have hxc := HX.out k x hx
      clear hx
      cases hp : Lib.hasPrefix s.data.toList x.data.toList with
      | true =>
        have HR : Aside (oneR s c = (⟨4, x, 0, 0⟩, (x.size : Int), 0)) := sign_hit HH.out HX1.out hp HN.out HW.out H34.out
        go_wp2_with (go_at_call 103; refine (Tryz.strings_HasPrefix _ _ _).mono ?_; rintro e w1 ⟨rfl, rfl⟩)
        refine ret_tok rfl rfl H4.out rfl ⟨?_, below_put4 HL.out (Nat.le_refl _) _ _ _ _⟩
        rw [HR.out]
        try rfl
      | false =>
        have HN2 : Aside (∀ (j : Nat) y, j < k + 1 → signTab[j]? = some y → Lib.hasPrefix s.data.toList y.data.toList = false) := fun j y hj hy => by
          by_cases hjk : j < k
          · exact HN.out j y hjk hy
          · obtain rfl : j = k := by omega
            rw [HX1.out] at hy
            cases hy
            exact hp
        go_wp2_with (go_at_call 103; refine (Tryz.strings_HasPrefix _ _ _).mono ?_; rintro e w1 ⟨rfl, rfl⟩)
        go_roundg (gk - 1)
        case measure => omega
        case rel => exact ⟨k + 1, by omega, by go_num, HL.out, H4.out, HX.out, HN2.out⟩
    · have hk18 : k = 18 := by omega
      subst hk18
      have HR : Aside (oneR s c = (tok0, 0, 1)) := sign_miss HH.out HN.out HW.out H34.out
      go_wp2
      refine ret_tok rfl rfl H4.out rfl ⟨?_, below_put4 HL.out (Nat.le_refl _) _ _ _ _⟩
      rw [HR.out]
      try rfl

theorem one21_any (s : ByteArray) (hs : s.size ≤ 1000000) (h1 : 0 < s.size) (w : World) :
    Calls Tryz.prog 107 #[.string s] w fun e w' => e = .returned (.tuple #[(oneR s (s[0]'h1)).1.v, .int .i64 (oneR s (s[0]'h1)).2.1, .int .i64 (oneR s (s[0]'h1)).2.2]) ∧ Later w w' := by
  cases hd : digitZ ((s[0]'h1).toNat : Int) with
  | true =>
    have hl : letterZ ((s[0]'h1).toNat : Int) = false := by
      unfold digitZ at hd
      unfold letterZ
      simp only [Bool.and_eq_true, decide_eq_true_eq] at hd
      simp only [Bool.or_eq_false_iff, Bool.and_eq_false_iff, decide_eq_false_iff_not]
      omega
    have ho : oneR s (s[0]'h1) = numberR s := by unfold oneR; rw [if_neg (by simp [hl]), if_pos hd]
    rw [ho]
    exact one21_number s hs h1 hd w
  | false =>
    cases hw : wordZ ((s[0]'h1).toNat : Int) with
    | true =>
      have hl : letterZ ((s[0]'h1).toNat : Int) = true := by
        unfold wordZ at hw
        unfold digitZ at hd
        rw [hd, Bool.or_false] at hw
        exact hw
      have ho : oneR s (s[0]'h1) = (⟨1, s.extract 0 (runN wordZ s.data.toList), 0, 0⟩, ((runN wordZ s.data.toList : Nat) : Int), 0) := by unfold oneR; rw [if_pos hl]
      rw [ho]
      exact one21_word s hs h1 hd hw w
    | false =>
      by_cases h34 : (s[0]'h1).toNat = 34
      · have hl : letterZ ((s[0]'h1).toNat : Int) = false := by unfold wordZ at hw; simp only [Bool.or_eq_false_iff] at hw; exact hw.1
        have ho : oneR s (s[0]'h1) = quotedR s := by unfold oneR; rw [if_neg (by simp [hl]), if_neg (by simp [hd]), if_pos h34]
        rw [ho]
        exact one21_text s hs h1 h34 w
      · exact one21_sign s hs h1 hw h34 w
end Go.Proofs.YtlkhkalniekaoaaGreatDoor
end
