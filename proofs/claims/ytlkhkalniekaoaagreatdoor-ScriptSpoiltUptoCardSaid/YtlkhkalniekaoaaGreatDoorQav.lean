/- Parts of the proof: Wa, Wb, Wc, Wd, We, Wf, Wg, Wh. -/
import Derived.Test.YtlkhkalniekaoaaGreatDoorChecked
import Derived.WalkKit
import Derived.WalkSpells
import Derived.WalkLawsBesides
import Derived.Lib.SmallJoins
import Derived.Lib.AppendIntMem
import Derived.Deep.DeepMust
import Derived.Deep.LoopGhost
import Derived.Deep.MidRow
import Derived.WalkMore
import Derived.ScopeJumps
import Derived.Test.YtlkhkalniekaoaaGreatDoorQal

set_option linter.unusedVariables false
set_option linter.unusedSimpArgs false

section
/- What a world must keep for the library's contracts to hold; small laws. -/
namespace Go.Proofs.YtlkhkalniekaoaaGreatDoor
open Go.RowKit Go.Shelf Go.Sort Go.Lib
theorem cell_lt {w : World} {a : Addr} {v : Value} (h : w.cell? a = some v) : a.block < w.heap.size := by
  rcases Nat.lt_or_ge a.block w.heap.size with h' | h'
  · exact h'
  · simp [World.cell?, Array.getElem?_eq_none h'] at h

/-- Below all that was there, the world is as it was. -/
abbrev Later (w w' : World) : Prop := Below w.heap.size w w'
theorem Later.step {a b c : World} (h : Later a b) (k : Later b c) : Later a c := h.trans (k.mono h.size)
theorem Later.cellOf {w w' : World} (h : Later w w') {a : Addr} {v : Value} (hc : w.cell? a = some v) : w'.cell? a = some v := (h.cell (cell_lt hc)).trans hc
theorem Later.varOf {w w' : World} (h : Later w w') {P : Program} {n : String} {cs : Array Value} (hv : w.var? P n = some cs) : w'.var? P n = some cs := by
  unfold World.var? at hv ⊢
  cases hg : P.globalNamed n with
  | none => simp [hg] at hv
  | some g =>
    simp only [hg, Option.bind_some] at hv ⊢
    have hlt : g < w.heap.size := by
      rcases Nat.lt_or_ge g w.heap.size with h' | h'
      · exact h'
      · simp [Array.getElem?_eq_none h'] at hv
    rw [h.block g hlt]
    exact hv
theorem later_bytes {w w' : World} {t : TypeId} (h : w' = w ∨ ∃ o, w' = Lib.bytesWorld w t o) : Later w w' := by
  rcases h with rfl | ⟨o, rfl⟩
  · exact Below.refl _ _
  · exact Joins.below_bytesWorld _ _ _ _ (Nat.le_refl _)
theorem later_grow {w w' : World} (h : ∃ k os, w' = grow (w.drewN k) os) : Later w w' := by
  obtain ⟨k, os, rfl⟩ := h
  exact below_grow _ w (Nat.le_refl _) k os

/-- What the library's contracts ask of the world. -/
structure Calm (w : World) : Prop where
  most : ∃ m, w.cell? ⟨4, 0, none⟩ = some (.int .i64 m)
  errS : ∃ te pe, w.cell? ⟨9, 0, none⟩ = some (.iface te pe)
  errR : ∃ te pe, w.cell? ⟨10, 0, none⟩ = some (.iface te pe)
  space : Lib.TabIs Tryz.prog w "strings.asciiSpace" .u8 Lib.asciiSpaceTab
  white : Lib.WhiteTab 3 w
  utf : Lib.Utf8Tabs 6 7 w
  pow : Lib.TabIs Tryz.prog w "internal/strconv.uint64pow10" .u64 Lib.pow10Tab
theorem Calm.later {w w' : World} (h : Calm w) (k : Later w w') : Calm w' where
  most := h.most.imp fun _ hm => k.cellOf hm
  errS := by obtain ⟨te, pe, hm⟩ := h.errS; exact ⟨te, pe, k.cellOf hm⟩
  errR := by obtain ⟨te, pe, hm⟩ := h.errR; exact ⟨te, pe, k.cellOf hm⟩
  space := k.varOf h.space
  white := WhiteTab_below h.white k
  utf := Utf8Tabs_below h.utf k
  pow := k.varOf h.pow

/-- A decimal number of a word: up to a million, as strconv writes it. -/
def numS (s : ByteArray) : Option Int :=
  match Lib.atoiAll s.data.toList with
  | .ok v => if Lib.itoa v = s.data.toList ∧ 0 ≤ v ∧ v ≤ 1000000 then some v else none
  | _ => none
end Go.Proofs.YtlkhkalniekaoaaGreatDoor
end

section
/- paling/script.number at every word. -/
namespace Go.Proofs.YtlkhkalniekaoaaGreatDoor
open Go.RowKit Go.Shelf Go.Sort Go.Lib

/-- strconv.Atoi, whatever the word. -/
theorem atoi_any (s : ByteArray) (hs : s.size ≤ 1000000) (w : World) (hc : Calm w) :
    Calls Tryz.prog 68 #[.string s] w fun e w' => ∃ n er, e = .returned (.tuple #[.int .i64 n, er]) ∧ Later w w' ∧
      ((∃ v, Lib.atoiAll s.data.toList = .ok v ∧ n = v ∧ er = .nilIface) ∨ ((∀ v, Lib.atoiAll s.data.toList ≠ .ok v) ∧ ∃ t p, er = .iface t p)) := by
  cases h : Lib.atoiAll s.data.toList with
  | ok v =>
    refine (Tryz.strconv_Atoi_ok s (by omega) v h w).mono ?_
    rintro e w' ⟨rfl, hw⟩
    exact ⟨_, _, rfl, later_bytes hw, .inl ⟨v, rfl, rfl, rfl⟩⟩
  | range =>
    obtain ⟨te, pe, hv⟩ := hc.errR
    refine (Tryz.strconv_Atoi_range s (by omega) h _ w hv (.inr ⟨te, pe, rfl⟩)).mono ?_
    rintro e w' ⟨N, rfl, _, _, hb⟩
    exact ⟨_, _, rfl, hb, .inr ⟨by simp, _, _, rfl⟩⟩
  | _ =>
    obtain ⟨te, pe, hv⟩ := hc.errS
    refine (Tryz.strconv_Atoi_syntax s (by omega) (by rw [h]) _ w hv (.inr ⟨te, pe, rfl⟩)).mono ?_
    rintro e w' ⟨N, rfl, _, _, hb⟩
    exact ⟨_, _, rfl, hb, .inr ⟨by simp, _, _, rfl⟩⟩

theorem mk_eq {a b : List UInt8} : ((⟨a.toArray⟩ : ByteArray).toList == b) = decide (a = b) := by
  rw [Lib.toList_data]
  by_cases h : a = b <;> simp [h]

theorem atoi_good (s : ByteArray) (hs : s.size ≤ 1000000) (w : World) (v : Int) (h : Lib.atoiAll s.data.toList = .ok v) :
    Calls Tryz.prog 68 #[.string s] w fun e w' => e = .returned (.tuple #[.int .i64 v, .nilIface]) ∧ Later w w' := by
  refine (Tryz.strconv_Atoi_ok s (by omega) v h w).mono ?_
  rintro e w' ⟨rfl, hw⟩
  exact ⟨rfl, later_bytes hw⟩
theorem atoi_bad (s : ByteArray) (hs : s.size ≤ 1000000) (w : World) (hc : Calm w) (h : ∀ v, Lib.atoiAll s.data.toList ≠ .ok v) :
    Calls Tryz.prog 68 #[.string s] w fun e w' => ∃ n t p, e = .returned (.tuple #[.int .i64 n, .iface t p]) ∧ Later w w' := by
  refine (atoi_any s hs w hc).mono ?_
  rintro e w' ⟨n, er, rfl, hb, ⟨v, hv, _⟩ | ⟨_, t, p, rfl⟩⟩
  · exact absurd hv (h v)
  · exact ⟨n, t, p, rfl, hb⟩
theorem itoa_any (v : Int) (h : -9223372036854775808 ≤ v ∧ v ≤ 9223372036854775807) (w : World) (hc : Calm w) :
    Calls Tryz.prog 16 #[.int .i64 v] w fun e w' => e = .returned (.string ⟨(Lib.itoa v).toArray⟩) ∧ Later w w' := by
  refine (Tryz.strconv_Itoa v h.1 h.2 w hc.pow).mono ?_
  rintro e w' ⟨rfl, hw⟩
  exact ⟨rfl, later_grow hw⟩

set_option maxHeartbeats 1600000 in
theorem number_any (s : ByteArray) (hs : s.size ≤ 1000000) (w : World) (hc : Calm w) :
    Calls Tryz.prog 43 #[.string s] w fun e w' => ∃ n, e = .returned (.tuple #[.int .i64 n, .bool (numS s).isSome]) ∧ Later w w' ∧ ∀ v, numS s = some v → n = v := by
  by_cases h : ∃ v, Lib.atoiAll s.data.toList = .ok v
  · obtain ⟨v, hv⟩ := h
    have hN : numS s = if Lib.itoa v = s.data.toList ∧ 0 ≤ v ∧ v ≤ 1000000 then some v else none := by simp [numS, hv]
    have hin := Lib.atoiAll_bounds hv
    obtain ⟨t, ht⟩ : ∃ t : ByteArray, (⟨(Lib.itoa v).toArray⟩ : ByteArray) = t := ⟨_, rfl⟩
    have hte : (t.toList == s.toList) = decide (Lib.itoa v = s.data.toList) := by
      rw [← ht, Lib.toList_data s]; exact mk_eq
    have HN : Hid (numS s = if Lib.itoa v = s.data.toList ∧ 0 ≤ v ∧ v ≤ 1000000 then some v else none) := hN
    have hfin : ∀ (q : Bool), q = decide (Lib.itoa v = s.data.toList ∧ 0 ≤ v ∧ v ≤ 1000000) → q = (numS s).isSome ∧ ∀ u, numS s = some u → v = u := by
      intro q hq
      rw [HN.out, hq]
      split <;> simp_all
    have HF : Hid (∀ (q : Bool), q = decide (Lib.itoa v = s.data.toList ∧ 0 ≤ v ∧ v ≤ 1000000) → q = (numS s).isSome ∧ ∀ u, numS s = some u → v = u) := hfin
    clear hfin hN HN
    by_cases heq : Lib.itoa v = s.data.toList
    · rw [decide_eq_true heq] at hte
      have HQ : Hid (Lib.itoa v = s.data.toList) := heq
      clear heq
      go_enter Tryz.func43, Tryz.ntmps43
      go_wp2_with (first
        | (go_at_call 68; refine (atoi_good s hs w v hv).mono ?_; rintro e w1 ⟨rfl, hb⟩)
        | (go_at_call 16; refine (itoa_any v hin w1 (hc.later hb)).mono ?_; rintro e w2 ⟨rfl, hb2⟩; rw [ht]))
      · go_ret2
        obtain ⟨h1, h2⟩ := HF.out (decide (v ≤ 1000000)) (by have := HQ.out; simp [this]; omega)
        exact ⟨v, by rw [← h1]; rfl, hb.step hb2, fun u hu => h2 u hu⟩
      · go_ret2
        obtain ⟨h1, h2⟩ := HF.out false (by symm; simp; omega)
        exact ⟨v, by rw [← h1]; rfl, hb.step hb2, fun u hu => h2 u hu⟩
    · rw [decide_eq_false heq] at hte
      have HQ : Hid (¬ Lib.itoa v = s.data.toList) := heq
      clear heq
      go_enter Tryz.func43, Tryz.ntmps43
      go_wp2_with (first
        | (go_at_call 68; refine (atoi_good s hs w v hv).mono ?_; rintro e w1 ⟨rfl, hb⟩)
        | (go_at_call 16; refine (itoa_any v hin w1 (hc.later hb)).mono ?_; rintro e w2 ⟨rfl, hb2⟩; rw [ht]))
      go_ret2
      obtain ⟨h1, h2⟩ := HF.out false (by have := HQ.out; simp [this])
      exact ⟨v, by rw [← h1]; rfl, hb.step hb2, fun u hu => h2 u hu⟩
  · have hn : numS s = none := by
      unfold numS
      cases hx : Lib.atoiAll s.data.toList with
      | ok v => exact absurd ⟨v, hx⟩ h
      | range => rfl
      | _ => rfl
    have HN : Hid (numS s = none) := hn
    clear hn
    go_enter Tryz.func43, Tryz.ntmps43
    go_wp2_with (go_at_call 68; refine (atoi_bad s hs w hc (fun v hv => h ⟨v, hv⟩)).mono ?_; rintro e w1 ⟨n, t, p, rfl, hb⟩)
    go_ret2
    exact ⟨n, by rw [HN.out]; rfl, hb, fun u hu => by rw [HN.out] at hu; cases hu⟩
end Go.Proofs.YtlkhkalniekaoaaGreatDoor
end

section
/- (*strings.Builder).WriteByte at this program; paling/lex's letter, digit, run. -/
namespace Go.Proofs.YtlkhkalniekaoaaGreatDoor
open Go.RowKit Go.Shelf Go.Sort Go.Lib

def ren167 : Go.Shelf.Ren := ⟨fun | 167 => 243 | 240 => 34 | 276 => 58 | n => n,
  fun | 70 => 51 | 3 => 3 | 0 => 0 | 4 => 4 | 9 => 9 | 20 => 20 | 72 => 54 | 37 => 52 | 164 => 135 | 5 => 5 | 75 => 57 | 80 => 60 | n => n, fun | n => n⟩
theorem lays167 : Go.Proofs.Lays.n167 Tryz.prog ren167 :=
  { Tryz.lays165 with
    f167 := Tryz.func243.trans (congrArg some (by kernel_rfl))
    t5 := Tryz.underlying5
    a5 := Tryz.isAgg5
    z5 := Tryz.sizeOf5
    v5 := Tryz.zeroValue5
    t75 := Tryz.underlying57
    a75 := Tryz.isAgg57
    z75 := Tryz.sizeOf57
    v75 := Tryz.zeroValue57 }
theorem extra167 : Builder.Extra Tryz.prog ren167 := {
  sizeBuilder := by kernel_rfl
  liesBuilder := by kernel_rfl
  t5 := Tryz.underlying5
  a5 := Tryz.isAgg5
  z5 := Tryz.sizeOf5
  v5 := Tryz.zeroValue5
  infoByte := by kernel_rfl
  cellsByte := by kernel_rfl
  sizeByte := by kernel_rfl
  neB5 := by decide }
theorem writeByte (B b : Nat) (bs : List Value) (c : Int) (w : World) (h : Lib.IsBuilder 54 5 B b bs w) (hlen : bs.length + 1 ≤ 140737488355328) (hBw : B ≤ w.heap.size) :
    Calls Tryz.prog 243 #[.pointer (some ⟨b, 0, none⟩), .int .u8 c] w fun e w' => e = .returned .nilIface ∧ (Lib.BuilderAt 54 5 B b (.pointer (some ⟨b, 0, none⟩)) (bs ++ [.int .u8 c]) w' ∧ Below B w w') :=
  Any.Builder_WriteByte lays167 extra167 B b bs c w h hlen hBw

def letterZ (c : Int) : Bool := (decide (97 ≤ c) && decide (c ≤ 122) || decide (65 ≤ c) && decide (c ≤ 90)) || decide (c = 95)
def wordZ (c : Int) : Bool := letterZ c || (decide (48 ≤ c) && decide (c ≤ 57))
def digitZ (c : Int) : Bool := decide (48 ≤ c) && decide (c ≤ 57)

theorem ret_bool {q r : Bool} {v : Value} (h : v = Value.bool q) (hq : q = r) : Ending.returned v = .returned (.bool r) := by rw [h, hq]
theorem letter_any (c : Int) (w : World) : Calls Tryz.prog 202 #[.int .u8 c] w fun e w' => e = .returned (.bool (letterZ c)) ∧ w' = w := by
  go_enter Tryz.func202, Tryz.ntmps202
  go_wp2
  all_goals go_ret
  all_goals (refine ⟨ret_bool rfl ?_, rfl⟩; rw [Bool.eq_iff_iff]; simp [letterZ]; omega)
theorem digit_any (c : Int) (w : World) : Calls Tryz.prog 205 #[.int .u8 c] w fun e w' => e = .returned (.bool (digitZ c)) ∧ w' = w := by
  go_enter Tryz.func205, Tryz.ntmps205
  go_wp2
  all_goals go_ret
  all_goals (refine ⟨ret_bool rfl ?_, rfl⟩; rw [Bool.eq_iff_iff]; simp [digitZ]; omega)
theorem word_any (c : Int) (w : World) : Calls Tryz.prog 204 #[.int .u8 c] w fun e w' => e = .returned (.bool (wordZ c)) ∧ w' = w := by
  go_enter Tryz.func204, Tryz.ntmps204
  go_wp2_with (first
    | (go_at_call 202; refine (letter_any _ _).mono ?_; rintro e w1 ⟨rfl, rfl⟩)
    | (go_at_call 205; refine (digit_any _ _).mono ?_; rintro e w1 ⟨rfl, rfl⟩))
  all_goals go_ret
  all_goals (refine ⟨ret_bool rfl ?_, rfl⟩; simp_all [wordZ, digitZ])
/-- How many bytes at the beginning are so. -/
def runN (p : Int → Bool) (l : List UInt8) : Nat := (l.takeWhile fun c => p c.toNat).length
theorem runN_drop (p : Int → Bool) (l : List UInt8) (k : Nat) (c : UInt8) (hk : l[k]? = some c) (h : p (c.toNat : Int) = true) : runN p (l.drop k) = runN p (l.drop (k + 1)) + 1 := by
  rw [Lib.drop_at hk]
  unfold runN
  rw [List.takeWhile_cons_of_pos (by simpa using h)]
  rfl
theorem runN_stop (p : Int → Bool) (l : List UInt8) (k : Nat) (c : UInt8) (hk : l[k]? = some c) (h : p (c.toNat : Int) = false) : runN p (l.drop k) = 0 := by
  rw [Lib.drop_at hk]
  unfold runN
  rw [List.takeWhile_cons_of_neg (by simp [h])]
  rfl
theorem runN_le (p : Int → Bool) (l : List UInt8) : runN p l ≤ l.length := (List.takeWhile_sublist _).length_le
theorem byte_at (s : ByteArray) (k : Nat) (h : k < s.size) : s.data.toList[k]? = some (s[k]'h) := by
  rw [List.getElem?_eq_getElem (by rw [← Lib.size_eq]; exact h)]
  rfl

set_option maxHeartbeats 1600000 in
theorem run_digit (s : ByteArray) (hs : s.size ≤ 1000000) (w : World) :
    Calls Tryz.prog 203 #[.string s, .func (.func 205) #[] #[]] w fun e w' => e = .returned (.int .i64 (runN digitZ s.data.toList)) ∧ w' = w := by
  go_enter Tryz.func203, Tryz.ntmps203
  go_wp2
  go_loopg [8] s.size (fun g i wr => ∃ k : Nat, k + g = s.size ∧ i = .int .i64 k ∧ wr = w ∧ Aside (runN digitZ s.data.toList = k + runN digitZ (s.data.toList.drop k)))
  case atStart => exact ⟨0, by omega, rfl, rfl, by simp [Aside]⟩
  case round =>
    obtain ⟨k, hk, rfl, rfl, HA⟩ := hrel
    by_cases hlt : k < s.size
    · go_wp2_with (go_at_call 205; refine (digit_any _ _).mono ?_; rintro e w1 ⟨rfl, rfl⟩)
      · have hp : (!digitZ ↑s[k].toNat) = true := by assumption
        go_ret
        refine ⟨?_, rfl⟩
        rw [HA.out, runN_stop _ _ _ _ (byte_at s k hlt) (by simpa using hp)]
        rfl
      · have hp : (!digitZ ↑s[k].toNat) = false := by assumption
        go_roundg (gk - 1)
        case measure => omega
        case rel => exact ⟨k + 1, by omega, by go_num, rfl, by show _ = _; rw [HA.out, runN_drop _ _ _ _ (byte_at s k hlt) (by simpa using hp)]; omega⟩
    · go_wp2
      have : k = s.size := by omega
      go_ret
      refine ⟨?_, rfl⟩
      rw [HA.out, List.drop_eq_nil_of_le (by rw [← Lib.size_eq]; omega)]
      subst this
      rfl

set_option maxHeartbeats 1600000 in
theorem run_word (s : ByteArray) (hs : s.size ≤ 1000000) (w : World) :
    Calls Tryz.prog 203 #[.string s, .func (.func 204) #[] #[]] w fun e w' => e = .returned (.int .i64 (runN wordZ s.data.toList)) ∧ w' = w := by
  go_enter Tryz.func203, Tryz.ntmps203
  go_wp2
  go_loopg [8] s.size (fun g i wr => ∃ k : Nat, k + g = s.size ∧ i = .int .i64 k ∧ wr = w ∧ Aside (runN wordZ s.data.toList = k + runN wordZ (s.data.toList.drop k)))
  case atStart => exact ⟨0, by omega, rfl, rfl, by simp [Aside]⟩
  case round =>
    obtain ⟨k, hk, rfl, rfl, HA⟩ := hrel
    by_cases hlt : k < s.size
    · go_wp2_with (go_at_call 204; refine (word_any _ _).mono ?_; rintro e w1 ⟨rfl, rfl⟩)
      · have hp : (!wordZ ↑s[k].toNat) = true := by assumption
        go_ret
        refine ⟨?_, rfl⟩
        rw [HA.out, runN_stop _ _ _ _ (byte_at s k hlt) (by simpa using hp)]
        rfl
      · have hp : (!wordZ ↑s[k].toNat) = false := by assumption
        go_roundg (gk - 1)
        case measure => omega
        case rel => exact ⟨k + 1, by omega, by go_num, rfl, by show _ = _; rw [HA.out, runN_drop _ _ _ _ (byte_at s k hlt) (by simpa using hp)]; omega⟩
    · go_wp2
      have : k = s.size := by omega
      go_ret
      refine ⟨?_, rfl⟩
      rw [HA.out, List.drop_eq_nil_of_le (by rw [← Lib.size_eq]; omega)]
      subst this
      rfl
end Go.Proofs.YtlkhkalniekaoaaGreatDoor
end

section
/- paling/lex.number, quoted, one. -/
namespace Go.Proofs.YtlkhkalniekaoaaGreatDoor
open Go.RowKit Go.Shelf Go.Sort Go.Lib
structure Tok where
  k : Int
  t : ByteArray
  n : Int
  a : Int
def tok0 : Tok := ⟨0, ⟨#[]⟩, 0, 0⟩
def Tok.v (t : Tok) : Value := .agg #[.int .i64 t.k, .string t.t, .int .i64 t.n, .int .i64 t.a]

/-- lex.number: the token, how many bytes it takes, why not. -/
def numberR (s : ByteArray) : Tok × Int × Int :=
  match Lib.parseIntB 64 (s.extract 0 (runN digitZ s.data.toList)).data.toList with
  | .ok x => if 1 < runN digitZ s.data.toList ∧ s.data.toList.head? = some 48 then (tok0, 0, 6) else (⟨2, s.extract 0 (runN digitZ s.data.toList), x, 0⟩, runN digitZ s.data.toList, 0)
  | _ => (tok0, 0, 6)

theorem head_is (s : ByteArray) (h : 0 < s.size) (c : UInt8) : s.data.toList.head? = some c ↔ ((s[0]'h).toNat : Int) = c.toNat := by
  rw [List.head?_eq_getElem?, byte_at s 0 h]
  constructor
  · intro hh; cases hh; rfl
  · intro hh
    congr 1
    exact UInt8.toNat_inj.1 (by omega)
theorem parse_good (s : ByteArray) (hs : s.size ≤ 1000000) (w : World) (v : Int) (h : Lib.parseIntB 64 s.data.toList = .ok v) :
    Calls Tryz.prog 105 #[.string s, .int .i64 10, .int .i64 64] w fun e w' => e = .returned (.tuple #[.int .i64 v, .nilIface]) ∧ Later w w' := by
  refine (Tryz.strconv_ParseInt_10_at64_ok s (by omega) v h w).mono ?_
  rintro e w' ⟨rfl, hw⟩
  exact ⟨rfl, later_bytes hw⟩
theorem parse_bad (s : ByteArray) (hs : s.size ≤ 1000000) (w : World) (hc : Calm w) (h : ∀ v, Lib.parseIntB 64 s.data.toList ≠ .ok v) :
    Calls Tryz.prog 105 #[.string s, .int .i64 10, .int .i64 64] w fun e w' => ∃ n t p, e = .returned (.tuple #[.int .i64 n, .iface t p]) ∧ Later w w' := by
  cases hx : Lib.parseIntB 64 s.data.toList with
  | ok v => exact absurd hx (h v)
  | range =>
    obtain ⟨te, pe, hv⟩ := hc.errR
    refine (Tryz.strconv_ParseInt_10_at64_range s (by omega) hx _ w hv (.inr ⟨te, pe, rfl⟩)).mono ?_
    rintro e w' ⟨N, rfl, _, _, hb⟩
    exact ⟨_, _, _, rfl, hb⟩
  | _ =>
    obtain ⟨te, pe, hv⟩ := hc.errS
    refine (Tryz.strconv_ParseInt_10_at64_syntax s (by omega) (by rw [hx]) _ w hv (.inr ⟨te, pe, rfl⟩)).mono ?_
    rintro e w' ⟨N, rfl, _, _, hb⟩
    exact ⟨_, _, _, rfl, hb⟩

theorem results_row3 {P : Program} {fn : Func} {p u v : Tmp} {ty : TypeId} (h : fn.results = #[.cell p ty, .tmp u, .tmp v]) (tmps : Array Value) (w : World) (b o : Nat) (cs : List Value) (d : TypeDesc)
    (hp : tmps.getD p undef = .pointer (some ⟨b, o, none⟩)) (hc : w.rangeAt b o cs) (hu : P.underlying ty = some d) (hd : d.isRow = true) (hi : (P.info? ty).map (·.size) = some cs.length) :
    (results fn tmps).run P w = .ok (.tuple #[.agg cs.toArray, tmps.getD u undef, tmps.getD v undef]) w := by
  have hl := run_loadVar_mid w b o ty cs d hc hu hd hi
  have hp' : tmps[p]?.getD undef = .pointer (some ⟨b, o, none⟩) := by simpa using hp
  simp only [results, h]
  simp [Sem.run_bind, Result.andThen, hp', asAddr, hl]
theorem results_row2 {P : Program} {fn : Func} {p u : Tmp} {ty : TypeId} (h : fn.results = #[.cell p ty, .tmp u]) (tmps : Array Value) (w : World) (b o : Nat) (cs : List Value) (d : TypeDesc)
    (hp : tmps.getD p undef = .pointer (some ⟨b, o, none⟩)) (hc : w.rangeAt b o cs) (hu : P.underlying ty = some d) (hd : d.isRow = true) (hi : (P.info? ty).map (·.size) = some cs.length) :
    (results fn tmps).run P w = .ok (.tuple #[.agg cs.toArray, tmps.getD u undef]) w := by
  have hl := run_loadVar_mid w b o ty cs d hc hu hd hi
  have hp' : tmps[p]?.getD undef = .pointer (some ⟨b, o, none⟩) := by simpa using hp
  simp only [results, h]
  simp [Sem.run_bind, Result.andThen, hp', asAddr, hl]

/-- A block of four cells, none frozen. -/
def Four (w : World) (b : Nat) (x0 x1 x2 x3 : Value) : Prop :=
  (w.cell? ⟨b, 0, none⟩ = some x0 ∧ w.cell? ⟨b, 1, none⟩ = some x1 ∧ w.cell? ⟨b, 2, none⟩ = some x2 ∧ w.cell? ⟨b, 3, none⟩ = some x3) ∧
  w.frozen? ⟨b, 0, none⟩ = false ∧ w.frozen? ⟨b, 1, none⟩ = false ∧ w.frozen? ⟨b, 2, none⟩ = false ∧ w.frozen? ⟨b, 3, none⟩ = false
theorem Four.new (w : World) (a b c d : Value) (T : TypeId) : Four (w.alloc (.cells #[a, b, c, d] T)) w.heap.size a b c d := by
  refine ⟨⟨?_, ?_, ?_, ?_⟩, ?_, ?_, ?_, ?_⟩
  · rw [World.cell?_alloc_at _ _ _ _ (by simp)]; rfl
  · rw [World.cell?_alloc_at _ _ _ _ (by simp)]; rfl
  · rw [World.cell?_alloc_at _ _ _ _ (by simp)]; rfl
  · rw [World.cell?_alloc_at _ _ _ _ (by simp)]; rfl
  · exact World.frozen?_alloc_at _ _ _ _ rfl
  · exact World.frozen?_alloc_at _ _ _ _ rfl
  · exact World.frozen?_alloc_at _ _ _ _ rfl
  · exact World.frozen?_alloc_at _ _ _ _ rfl
theorem Four.later {w w' : World} {b : Nat} {x0 x1 x2 x3 : Value} {B : Nat} (h : Four w b x0 x1 x2 x3) (k : Below B w w') (hB : b < B) : Four w' b x0 x1 x2 x3 := by
  obtain ⟨⟨a, b1, c, d⟩, e, f, g, i⟩ := h
  exact ⟨⟨(k.cell hB).trans a, (k.cell hB).trans b1, (k.cell hB).trans c, (k.cell hB).trans d⟩, (k.frozen hB).trans e, (k.frozen hB).trans f, (k.frozen hB).trans g, (k.frozen hB).trans i⟩
/-- .. and overwritten. -/
abbrev World.put4 (w : World) (b : Nat) (y0 y1 y2 y3 : Value) : World :=
  (((w.setCell ⟨b, 0, none⟩ y0).setCell ⟨b, 1, none⟩ y1).setCell ⟨b, 2, none⟩ y2).setCell ⟨b, 3, none⟩ y3
theorem Four.range {w : World} {b : Nat} {x0 x1 x2 x3 : Value} (h : Four w b x0 x1 x2 x3) (y0 y1 y2 y3 : Value) : (World.put4 w b y0 y1 y2 y3).rangeAt b 0 [y0, y1, y2, y3] := by
  obtain ⟨⟨a, b1, c, d⟩, -⟩ := h
  intro j v hj
  match j, hj with
  | 0, hj => simp at hj; subst hj; simp [World.put4, World.cell?_setCell_other, World.cell?_setCell_same, a, b1, c, d]
  | 1, hj => simp at hj; subst hj; simp [World.put4, World.cell?_setCell_other, World.cell?_setCell_same, a, b1, c, d]
  | 2, hj => simp at hj; subst hj; simp [World.put4, World.cell?_setCell_other, World.cell?_setCell_same, a, b1, c, d]
  | 3, hj => simp at hj; subst hj; simp [World.put4, World.cell?_setCell_other, World.cell?_setCell_same, a, b1, c, d]
theorem below_put4 {B : Nat} {a w : World} (h : Below B a w) {b : Nat} (hb : B ≤ b) (y0 y1 y2 y3 : Value) : Below B a (World.put4 w b y0 y1 y2 y3) :=
  (((h.setCell (by simpa using hb) _).setCell (by simpa using hb) _).setCell (by simpa using hb) _).setCell (by simpa using hb) _

theorem tokT : ∃ d, Tryz.prog.underlying 155 = some d ∧ d.isRow = true := ⟨_, Tryz.underlying155, rfl⟩
theorem tokI : (Tryz.prog.info? 155).map (·.size) = some 4 := by kernel_rfl
theorem ret_tok {fn : Func} {p u v : Tmp} (h : fn.results = #[.cell p 155, .tmp u, .tmp v]) {a : Act} {w : World} {b : Nat} {x0 x1 x2 x3 y0 y1 y2 y3 : Value} {R : Ending → World → Prop}
    (hp : a.tmps.getD p undef = .pointer (some ⟨b, 0, none⟩)) (h4 : Four w b x0 x1 x2 x3) (hd : a.defers = [])
    (hR : R (.returned (.tuple #[.agg #[y0, y1, y2, y3], a.tmps.getD u undef, a.tmps.getD v undef])) (World.put4 w b y0 y1 y2 y3)) :
    bodyPost Tryz.prog fn R .ret a (World.put4 w b y0 y1 y2 y3) := by
  obtain ⟨d, hu, hd'⟩ := tokT
  exact bodyPost_ret_by (results_row3 h a.tmps _ b 0 [y0, y1, y2, y3] d hp (h4.range y0 y1 y2 y3) hu hd' tokI) hd hR

set_option maxHeartbeats 1600000 in
theorem lexNumber_any (s : ByteArray) (hs : s.size ≤ 1000000) (h1 : 1 ≤ s.size) (w : World) (hc : Calm w) :
    Calls Tryz.prog 206 #[.string s] w fun e w' => e = .returned (.tuple #[(numberR s).1.v, .int .i64 (numberR s).2.1, .int .i64 (numberR s).2.2]) ∧ Later w w' := by
  have hle := runN_le digitZ s.data.toList
  rw [← Lib.size_eq] at hle
  by_cases h : ∃ v, Lib.parseIntB 64 (s.extract 0 (runN digitZ s.data.toList)).data.toList = .ok v
  · obtain ⟨v, hv⟩ := h
    have hR : Hid (numberR s = if 1 < runN digitZ s.data.toList ∧ s.data.toList.head? = some 48 then (tok0, 0, 6) else (⟨2, s.extract 0 (runN digitZ s.data.toList), v, 0⟩, ((runN digitZ s.data.toList : Nat) : Int), 0)) := by
      show _ = _
      unfold numberR
      rw [hv]
    have hz : (s.extract 0 (runN digitZ s.data.toList)).size ≤ 1000000 := by simp; omega
    obtain ⟨n, hn⟩ : ∃ n, runN digitZ s.data.toList = n := ⟨_, rfl⟩
    rw [hn] at hR hz hle hv
    go_enter Tryz.func206, Tryz.ntmps206
    go_wp2_with (first
      | (go_at_call 203; refine (run_digit s hs _).mono ?_; rintro e w1 ⟨rfl, rfl⟩; rw [hn])
      | (go_at_call 105; refine (parse_good _ hz _ v hv).mono ?_; rintro e w2 ⟨rfl, hb2⟩; have h4 := (Four.new w _ _ _ _ _).later hb2 (by simp); obtain ⟨⟨c0, c1, c2, c3⟩, f0, f1, f2, f3⟩ := id h4; have H4 : Hid (Four _ _ _ _ _ _) := h4; clear h4))
    all_goals have hl2 : Later w w2 := ((Below.refl _ w).alloc (Nat.le_refl _) _).trans (hb2.mono (by simp))
    · have h0 : 1 < (n : Int) := by assumption
      have h00 : ((s[0].toNat : Int) == 48) = true := by assumption
      refine ret_tok rfl rfl H4.out rfl ⟨?_, below_put4 hl2 (Nat.le_refl _) _ _ _ _⟩
      rw [hR.out, if_pos ⟨by omega, (head_is s (by omega) 48).2 (by simpa using h00)⟩]
      try rfl
    · have h00 : ((s[0].toNat : Int) == 48) = false := by assumption
      refine ret_tok rfl rfl H4.out rfl ⟨?_, below_put4 hl2 (Nat.le_refl _) _ _ _ _⟩
      rw [hR.out, if_neg (fun h => by have := (head_is s (by omega) 48).1 h.2; rw [this] at h00; simp at h00)]
      try rfl
    · have h0 : (n : Int) ≤ 1 := by assumption
      refine ret_tok rfl rfl H4.out rfl ⟨?_, below_put4 hl2 (Nat.le_refl _) _ _ _ _⟩
      rw [hR.out, if_neg (fun h => by omega)]
      try rfl
  · have hR : Hid (numberR s = (tok0, 0, 6)) := by
      show _ = _
      unfold numberR
      split
      · rename_i x hx; exact absurd ⟨x, hx⟩ h
      · rfl
    have hz : (s.extract 0 (runN digitZ s.data.toList)).size ≤ 1000000 := by simp; omega
    obtain ⟨n, hn⟩ : ∃ n, runN digitZ s.data.toList = n := ⟨_, rfl⟩
    rw [hn] at hz hle h
    have H : Hid (¬ ∃ v, Lib.parseIntB 64 (s.extract 0 n).data.toList = .ok v) := h
    clear h
    go_enter Tryz.func206, Tryz.ntmps206
    go_wp2_with (first
      | (go_at_call 203; refine (run_digit s hs _).mono ?_; rintro e w1 ⟨rfl, rfl⟩; rw [hn])
      | (go_at_call 105; refine (parse_bad _ hz _ (hc.later ((Below.refl _ w).alloc (Nat.le_refl _) _)) (fun v hv => H.out ⟨v, hv⟩)).mono ?_; rintro e w2 ⟨x, t, q, rfl, hb2⟩; have h4 := (Four.new w _ _ _ _ _).later hb2 (by simp); obtain ⟨⟨c0, c1, c2, c3⟩, f0, f1, f2, f3⟩ := id h4; have H4 : Hid (Four _ _ _ _ _ _) := h4; clear h4))
    have hl2 : Later w w2 := ((Below.refl _ w).alloc (Nat.le_refl _) _).trans (hb2.mono (by simp))
    refine ret_tok rfl rfl H4.out rfl ⟨?_, below_put4 hl2 (Nat.le_refl _) _ _ _ _⟩
    rw [hR.out]
    try rfl
end Go.Proofs.YtlkhkalniekaoaaGreatDoor
end

section
/- paling/lex.quoted. -/
namespace Go.Proofs.YtlkhkalniekaoaaGreatDoor
open Go.RowKit Go.Shelf Go.Sort Go.Lib

/-- Behind the first quote: what the text means, and where it ends. -/
def quotedS : List UInt8 → List UInt8 → Nat → Option (List UInt8 × Nat)
  | [], _, _ => none
  | c :: r, acc, i =>
    if c.toNat = 34 then some (acc, i + 1)
    else if c.toNat = 92 then
      match r with
      | [] => none
      | d :: r' => if d.toNat = 34 ∨ d.toNat = 92 then quotedS r' (acc ++ [d]) (i + 2) else if d.toNat = 110 then quotedS r' (acc ++ [10]) (i + 2) else none
    else if c.toNat < 32 ∨ 126 < c.toNat then none
    else quotedS r (acc ++ [c]) (i + 1)
def quotedR (s : ByteArray) : Tok × Int × Int :=
  match quotedS (s.data.toList.drop 1) [] 1 with
  | some (t, n) => (⟨3, ⟨t.toArray⟩, 0, 0⟩, n, 0)
  | none => (tok0, 0, 1)

theorem quoted_step (l acc : List UInt8) (k : Nat) (c : UInt8) (hc : l[k]? = some c) : quotedS (l.drop k) acc k =
    if c.toNat = 34 then some (acc, k + 1)
    else if c.toNat = 92 then
      match l[k + 1]? with
      | none => none
      | some d => if d.toNat = 34 ∨ d.toNat = 92 then quotedS (l.drop (k + 2)) (acc ++ [d]) (k + 2) else if d.toNat = 110 then quotedS (l.drop (k + 2)) (acc ++ [10]) (k + 2) else none
    else if c.toNat < 32 ∨ 126 < c.toNat then none
    else quotedS (l.drop (k + 1)) (acc ++ [c]) (k + 1) := by
  rw [Lib.drop_at hc]
  cases hd : l[k + 1]? with
  | none =>
    rw [List.drop_eq_nil_of_le (by simpa using hd)]
    simp only [quotedS]
  | some d =>
    rw [Lib.drop_at hd]
    simp only [quotedS]

theorem builder_next {T e : TypeId} {B b : Nat} {acc : List UInt8} {d : UInt8} {x : Int} {w2 : World} (hb2 : Lib.BuilderAt T e B b (.pointer (some ⟨b, 0, none⟩)) (Lib.byteCells acc ++ [.int .u8 x]) w2) (hx : (d.toNat : Int) = x) :
    Aside (Lib.IsBuilder T e B b (Lib.byteCells (acc ++ [d])) w2) := by
  refine .inr ?_
  unfold Lib.byteCells at hb2 ⊢
  rw [List.map_append, List.map_singleton, hx]
  exact hb2
theorem quoted_none {s : ByteArray} (hR : Hid (quotedR s = match quotedS (s.data.toList.drop 1) [] 1 with | some (t, n) => (⟨3, ⟨t.toArray⟩, 0, 0⟩, n, 0) | none => (tok0, 0, 1)))
    (h : quotedS (s.data.toList.drop 1) [] 1 = none) : quotedR s = (tok0, 0, 1) := by rw [hR.out, h]
theorem quoted_some {s : ByteArray} (hR : Hid (quotedR s = match quotedS (s.data.toList.drop 1) [] 1 with | some (t, n) => (⟨3, ⟨t.toArray⟩, 0, 0⟩, n, 0) | none => (tok0, 0, 1)))
    {t : List UInt8} {n : Nat} (h : quotedS (s.data.toList.drop 1) [] 1 = some (t, n)) : quotedR s = (⟨3, ⟨t.toArray⟩, 0, 0⟩, (n : Int), 0) := by rw [hR.out, h]

set_option maxHeartbeats 4000000 in
set_option maxRecDepth 1000000 in
theorem quoted_any (s : ByteArray) (hs : s.size ≤ 1000000) (h1 : 1 ≤ s.size) (w : World) :
    Calls Tryz.prog 207 #[.string s] w fun e w' => e = .returned (.tuple #[(quotedR s).1.v, .int .i64 (quotedR s).2.1, .int .i64 (quotedR s).2.2]) ∧ Later w w' := by
  have hR : Hid (quotedR s = match quotedS (s.data.toList.drop 1) [] 1 with | some (t, n) => (⟨3, ⟨t.toArray⟩, 0, 0⟩, n, 0) | none => (tok0, 0, 1)) := rfl
  go_enter Tryz.func207, Tryz.ntmps207
  go_wp2
  go_loopg [6] (s.size - 1) (fun g i wr => ∃ (k : Nat) (acc : List UInt8), k + g = s.size ∧ i = .int .i64 k ∧ Aside (Lib.IsBuilder 54 5 (w.heap.size + 1) (w.heap.size + 1) (Lib.byteCells acc) wr) ∧
      Aside (Later w wr) ∧ Aside (Four wr w.heap.size (.int .i64 0) (.string ⟨#[]⟩) (.int .i64 0) (.int .i64 0)) ∧ acc.length ≤ k ∧ Aside (w.heap.size + 1 ≤ wr.heap.size) ∧ Aside (quotedS (s.data.toList.drop 1) [] 1 = quotedS (s.data.toList.drop k) acc k))
  case atStart =>
    refine ⟨1, [], by omega, rfl, ?_, ?_, ?_, by simp, ?_, rfl⟩
    · have := Lib.fresh_isBuilder 54 5 (w.alloc (.cells #[.int .i64 0, .string ⟨#[]⟩, .int .i64 0, .int .i64 0] 155))
      rw [World.size_alloc] at this
      exact this
    · exact ((Below.refl _ w).alloc (Nat.le_refl _) _).alloc (by simp) _
    · exact (Four.new w _ _ _ _ _).later ((Below.refl _ _).alloc (Nat.le_refl _) _) (by simp)
    · show _ ≤ _
      simp
  case round =>
    obtain ⟨k, acc, hk, rfl, HB, HL, H4, hlen, HS, HA⟩ := hrel
    have hsz : w.heap.size < wr.heap.size := HS.out
    obtain ⟨⟨c0, c1, c2, c3⟩, f0, f1, f2, f3⟩ := id H4.out
    by_cases hlt : k < s.size
    · have HQ : Aside _ := quoted_step s.data.toList acc k _ (byte_at s k hlt)
      go_wp2_with (first
        | (go_at_call 243; refine (writeByte _ _ _ _ _ HB.out (by simp [Lib.byteCells]; omega) HS.out).mono ?_; rintro e w2 ⟨rfl, hb2, hbel⟩; have HB2 : Aside (Lib.BuilderAt _ _ _ _ _ _ _) := hb2; clear hb2)
        | (go_at_call 15; refine (Tryz.Builder_String_any _ _ acc _ HB.out HS.out).mono ?_; rintro e w2 ⟨rfl, hbel⟩; have h4 := H4.out.later hbel (by omega); have H5 : Aside (Four _ _ _ _ _ _) := h4; clear c0 c1 c2 c3 f0 f1 f2 f3; obtain ⟨⟨c0, c1, c2, c3⟩, f0, f1, f2, f3⟩ := id h4; clear h4))
      · -- the quote that ends it
        have e34 : s[k].toNat = 34 := by
          have h : ((s[k].toNat : Int) == 34) = true := by assumption
          simp only [beq_iff_eq] at h
          omega
        refine ret_tok rfl rfl H5.out rfl ⟨?_, below_put4 (HL.out.trans (hbel.mono (Nat.le_succ _))) (Nat.le_refl _) _ _ _ _⟩
        rw [quoted_some hR (HA.out.trans (HQ.out.trans (by rw [if_pos e34])))]
        try rfl
      · -- a backslash, a quote
        have n34 : s[k].toNat ≠ 34 := by
          have h : ((s[k].toNat : Int) == 34) = false := by assumption
          intro hh; rw [hh] at h; simp at h
        have e92 : s[k].toNat = 92 := by omega
        have hk1 : k + 1 < s.size := by omega
        have e1 : s[k + 1].toNat = 34 := by omega
        have hq : quotedS (s.data.toList.drop k) acc k = quotedS (s.data.toList.drop (k + 2)) (acc ++ [s[k + 1]]) (k + 2) := by
          rw [HQ.out, byte_at s (k + 1) hk1, if_neg n34, if_pos e92]
          simp only [e1, true_or, if_true]
        go_roundg (gk - 2)
        case measure => omega
        case rel => exact ⟨k + 2, acc ++ [s[k + 1]], by omega, by go_num, builder_next HB2.out (by omega), HL.out.trans (hbel.mono (Nat.le_succ _)), H4.out.later hbel (by omega), by simp; omega, Nat.le_trans HS.out hbel.size, HA.out.trans hq⟩
      · -- a backslash, a quote or a backslash
        have n34 : s[k].toNat ≠ 34 := by
          have h : ((s[k].toNat : Int) == 34) = false := by assumption
          intro hh; rw [hh] at h; simp at h
        have e92 : s[k].toNat = 92 := by omega
        have hk1 : k + 1 < s.size := by omega
        have e1 : s[k + 1].toNat = 34 ∨ s[k + 1].toNat = 92 := by
          have h : ((s[k + 1].toNat : Int) == 34) = true ∨ ((s[k + 1].toNat : Int) == 92) = true := by assumption
          simp only [beq_iff_eq] at h
          omega
        have hq : quotedS (s.data.toList.drop k) acc k = quotedS (s.data.toList.drop (k + 2)) (acc ++ [s[k + 1]]) (k + 2) := by
          rw [HQ.out, byte_at s (k + 1) hk1, if_neg n34, if_pos e92]
          simp only [e1, if_true]
        go_roundg (gk - 2)
        case measure => omega
        case rel => exact ⟨k + 2, acc ++ [s[k + 1]], by omega, by go_num, builder_next HB2.out rfl, HL.out.trans (hbel.mono (Nat.le_succ _)), H4.out.later hbel (by omega), by simp; omega, Nat.le_trans HS.out hbel.size, HA.out.trans hq⟩
      · -- a backslash, n
        have n34 : s[k].toNat ≠ 34 := by
          have h : ((s[k].toNat : Int) == 34) = false := by assumption
          intro hh; rw [hh] at h; simp at h
        have e92 : s[k].toNat = 92 := by omega
        have hk1 : k + 1 < s.size := by omega
        have e1 : ¬ (s[k + 1].toNat = 34 ∨ s[k + 1].toNat = 92) := by
          have h : ((s[k + 1].toNat : Int) == 34) = false ∧ ((s[k + 1].toNat : Int) == 92) = false := by assumption
          simp only [beq_eq_false_iff_ne] at h
          omega
        have e2 : s[k + 1].toNat = 110 := by
          have h : ((s[k + 1].toNat : Int) == 110) = true := by assumption
          simp only [beq_iff_eq] at h
          omega
        have hq : quotedS (s.data.toList.drop k) acc k = quotedS (s.data.toList.drop (k + 2)) (acc ++ [10]) (k + 2) := by
          rw [HQ.out, byte_at s (k + 1) hk1, if_neg n34, if_pos e92]
          simp only [if_neg e1, if_pos e2]
        go_roundg (gk - 2)
        case measure => omega
        case rel => exact ⟨k + 2, acc ++ [10], by omega, by go_num, builder_next HB2.out rfl, HL.out.trans (hbel.mono (Nat.le_succ _)), H4.out.later hbel (by omega), by simp; omega, Nat.le_trans HS.out hbel.size, HA.out.trans hq⟩
      · -- a backslash, something else
        have n34 : s[k].toNat ≠ 34 := by
          have h : ((s[k].toNat : Int) == 34) = false := by assumption
          intro hh; rw [hh] at h; simp at h
        have e92 : s[k].toNat = 92 := by omega
        have hk1 : k + 1 < s.size := by omega
        have e1 : ¬ (s[k + 1].toNat = 34 ∨ s[k + 1].toNat = 92) := by
          have h : ((s[k + 1].toNat : Int) == 34) = false ∧ ((s[k + 1].toNat : Int) == 92) = false := by assumption
          simp only [beq_eq_false_iff_ne] at h
          omega
        have e2 : ¬ s[k + 1].toNat = 110 := by
          have h : ((s[k + 1].toNat : Int) == 110) = false := by assumption
          simp only [beq_eq_false_iff_ne] at h
          omega
        refine ret_tok rfl rfl H4.out rfl ⟨?_, below_put4 HL.out (Nat.le_refl _) _ _ _ _⟩
        rw [quoted_none hR (HA.out.trans (HQ.out.trans (by rw [byte_at s (k + 1) hk1, if_neg n34, if_pos e92]; simp only [if_neg e1, if_neg e2])))]
        try rfl
      · -- a backslash at the end
        have n34 : s[k].toNat ≠ 34 := by
          have h : ((s[k].toNat : Int) == 34) = false := by assumption
          intro hh; rw [hh] at h; simp at h
        have e92 : s[k].toNat = 92 := by omega
        have hk1 : s.data.toList[k + 1]? = none := by rw [List.getElem?_eq_none_iff, ← Lib.size_eq]; omega
        refine ret_tok rfl rfl H4.out rfl ⟨?_, below_put4 HL.out (Nat.le_refl _) _ _ _ _⟩
        rw [quoted_none hR (HA.out.trans (HQ.out.trans (by rw [hk1, if_neg n34, if_pos e92])))]
        try rfl
      · exfalso
        have h : (((s[k].toNat : Int) < 32) ∨ 126 < (s[k].toNat : Int)) ∨ ((s[k].toNat : Int) == 92) = true := by assumption
        simp only [beq_iff_eq] at h
        omega
      · -- any other one
        have n34 : s[k].toNat ≠ 34 := by
          have h : ((s[k].toNat : Int) == 34) = false := by assumption
          intro hh; rw [hh] at h; simp at h
        have n92 : ¬ s[k].toNat = 92 := by omega
        have hq : quotedS (s.data.toList.drop k) acc k = quotedS (s.data.toList.drop (k + 1)) (acc ++ [s[k]]) (k + 1) := by
          rw [HQ.out, if_neg n34, if_neg n92, if_neg (by omega)]
        go_roundg (gk - 1)
        case measure => omega
        case rel => exact ⟨k + 1, acc ++ [s[k]], by omega, by go_num, builder_next HB2.out rfl, HL.out.trans (hbel.mono (Nat.le_succ _)), H4.out.later hbel (by omega), by simp; omega, Nat.le_trans HS.out hbel.size, HA.out.trans hq⟩
      · -- beyond the tilde
        have n34 : s[k].toNat ≠ 34 := by
          have h : ((s[k].toNat : Int) == 34) = false := by assumption
          intro hh; rw [hh] at h; simp at h
        have n92 : ¬ s[k].toNat = 92 := by omega
        refine ret_tok rfl rfl H4.out rfl ⟨?_, below_put4 HL.out (Nat.le_refl _) _ _ _ _⟩
        rw [quoted_none hR (HA.out.trans (HQ.out.trans (by rw [if_neg n34, if_neg n92, if_pos (by omega)])))]
        try rfl
      · -- below the blank
        have n34 : s[k].toNat ≠ 34 := by
          have h : ((s[k].toNat : Int) == 34) = false := by assumption
          intro hh; rw [hh] at h; simp at h
        have n92 : ¬ s[k].toNat = 92 := by omega
        refine ret_tok rfl rfl H4.out rfl ⟨?_, below_put4 HL.out (Nat.le_refl _) _ _ _ _⟩
        rw [quoted_none hR (HA.out.trans (HQ.out.trans (by rw [if_neg n34, if_neg n92, if_pos (by omega)])))]
        try rfl
    · -- no quote behind it
      go_wp2
      have hk0 : k = s.size := by omega
      refine ret_tok rfl rfl H4.out rfl ⟨?_, below_put4 HL.out (Nat.le_refl _) _ _ _ _⟩
      rw [quoted_none hR (HA.out.trans (by rw [List.drop_eq_nil_of_le (by rw [← Lib.size_eq]; omega)]; rfl))]
      try rfl
end Go.Proofs.YtlkhkalniekaoaaGreatDoor
end

section
/- paling/lex.one. -/
namespace Go.Proofs.YtlkhkalniekaoaaGreatDoor
open Go.RowKit Go.Shelf Go.Sort Go.Lib

def signs : ByteArray := ⟨#[40, 41, 123, 125, 91, 93, 59, 44, 58, 46, 61, 60, 43, 45, 42, 33]⟩
/-- The token at the beginning. -/
def oneR (s : ByteArray) (c : UInt8) : Tok × Int × Int :=
  if letterZ c.toNat then (⟨1, s.extract 0 (runN wordZ s.data.toList), 0, 0⟩, runN wordZ s.data.toList, 0)
  else if digitZ c.toNat then numberR s
  else if c.toNat = 34 then quotedR s
  else if Lib.hasPrefix s.data.toList [61, 61] || Lib.hasPrefix s.data.toList [33, 61] then (⟨4, s.extract 0 2, 0, 0⟩, 2, 0)
  else if 0 ≤ Lib.indexByte signs.data.toList c then (⟨4, s.extract 0 1, 0, 0⟩, 1, 0)
  else (tok0, 0, 1)

theorem ret_tok_new {fn : Func} {p u v : Tmp} (h : fn.results = #[.cell p 155, .tmp u, .tmp v]) {a : Act} {w : World} {y0 y1 y2 y3 : Value} {R : Ending → World → Prop} {T : TypeId}
    (hp : a.tmps.getD p undef = .pointer (some ⟨w.heap.size, 0, none⟩)) (hd : a.defers = [])
    (hR : R (.returned (.tuple #[.agg #[y0, y1, y2, y3], a.tmps.getD u undef, a.tmps.getD v undef])) (w.alloc (.cells #[y0, y1, y2, y3] T))) :
    bodyPost Tryz.prog fn R .ret a (w.alloc (.cells #[y0, y1, y2, y3] T)) := by
  obtain ⟨d, hu, hd'⟩ := tokT
  refine bodyPost_ret_by (results_row3 h a.tmps _ w.heap.size 0 [y0, y1, y2, y3] d hp ?_ hu hd' tokI) hd hR
  obtain ⟨⟨c0, c1, c2, c3⟩, -⟩ := Four.new w y0 y1 y2 y3 T
  intro j v hj
  match j, hj with
  | 0, hj => simp at hj; subst hj; exact c0
  | 1, hj => simp at hj; subst hj; exact c1
  | 2, hj => simp at hj; subst hj; exact c2
  | 3, hj => simp at hj; subst hj; exact c3
theorem prefix_size (s : ByteArray) (p : List UInt8) (h : Lib.hasPrefix s.data.toList p = true) : p.length ≤ s.size := by
  rw [Lib.size_eq]
  have := (List.isPrefixOf_iff_prefix.1 h).length_le
  exact this

set_option maxHeartbeats 4000000 in
set_option maxRecDepth 1000000 in
theorem one_any (s : ByteArray) (hs : s.size ≤ 1000000) (h1 : 0 < s.size) (w : World) (hc : Calm w) :
    Calls Tryz.prog 151 #[.string s] w fun e w' => e = .returned (.tuple #[(oneR s (s[0]'h1)).1.v, .int .i64 (oneR s (s[0]'h1)).2.1, .int .i64 (oneR s (s[0]'h1)).2.2]) ∧ Later w w' := by
  obtain ⟨c, hcb⟩ : ∃ c, s[0]'h1 = c := ⟨_, rfl⟩
  rw [hcb]
  obtain ⟨n, hn⟩ : ∃ n, runN wordZ s.data.toList = n := ⟨_, rfl⟩
  have hle := runN_le wordZ s.data.toList
  rw [← Lib.size_eq, hn] at hle
  have hl1 : Aside (Later w (w.alloc (.cells #[.int .i64 0, .string ⟨#[]⟩, .int .i64 0, .int .i64 0] 155))) := (Below.refl _ w).alloc (Nat.le_refl _) _
  rcases hnr : numberR s with ⟨⟨k1, t1, n1, a1⟩, i1, e1⟩
  rcases hqr : quotedR s with ⟨⟨k2, t2, n2, a2⟩, i2, e2⟩
  have HN : Hid (numberR s = _) := hnr
  have HQ : Hid (quotedR s = _) := hqr
  clear hnr hqr
  have hn' : (c.toNat : Int).toNat.toUInt8 = c := by simp
  go_enter Tryz.func151, Tryz.ntmps151
  go_wp2_with (first
    | (go_at_call 202; refine (letter_any _ _).mono ?_; rintro e w1 ⟨rfl, rfl⟩)
    | (go_at_call 205; refine (digit_any _ _).mono ?_; rintro e w1 ⟨rfl, rfl⟩)
    | (go_at_call 203; refine (run_word s hs _).mono ?_; rintro e w1 ⟨rfl, rfl⟩; rw [hn])
    | (go_at_call 103; refine (Tryz.strings_HasPrefix _ _ _).mono ?_; rintro e w1 ⟨rfl, rfl⟩)
    | (go_at_call 106; refine (Tryz.strings_IndexByte _ _ _).mono ?_; rintro e w1 ⟨rfl, rfl⟩)
    | (go_at_call 206; refine (lexNumber_any s hs h1 _ (hc.later hl1.out)).mono ?_; rintro e w2 ⟨rfl, hbel⟩; rw [HN.out]; simp only [Tok.v]; have h4 := (Four.new w _ _ _ _ _).later hbel (by simp); have H5 : Aside (Four _ _ _ _ _ _) := h4; obtain ⟨⟨c0, c1, c2, c3⟩, f0, f1, f2, f3⟩ := id h4; clear h4)
    | (go_at_call 207; refine (quoted_any s hs h1 _).mono ?_; rintro e w2 ⟨rfl, hbel⟩; rw [HQ.out]; simp only [Tok.v]; have h4 := (Four.new w _ _ _ _ _).later hbel (by simp); have H5 : Aside (Four _ _ _ _ _ _) := h4; obtain ⟨⟨c0, c1, c2, c3⟩, f0, f1, f2, f3⟩ := id h4; clear h4))
  · have h1' : letterZ (c.toNat : Int) = true := by assumption
    have ho : oneR s c = (⟨1, s.extract 0 n, 0, 0⟩, (n : Int), 0) := by unfold oneR; rw [if_pos h1', hn]
    refine ret_tok_new rfl rfl rfl ⟨?_, (Below.refl _ w).alloc (Nat.le_refl _) _⟩
    rw [ho]
    try rfl
  · have h1' : letterZ (c.toNat : Int) = false := by assumption
    have h2' : digitZ (c.toNat : Int) = true := by assumption
    have ho : oneR s c = numberR s := by unfold oneR; rw [if_neg (by simp [h1']), if_pos h2']
    refine ret_tok rfl rfl H5.out rfl ⟨?_, below_put4 (hl1.out.trans (hbel.mono (by simp))) (Nat.le_refl _) _ _ _ _⟩
    rw [ho, HN.out]
    try rfl
  · have h1' : letterZ (c.toNat : Int) = false := by assumption
    have h2' : digitZ (c.toNat : Int) = false := by assumption
    have h3' : ((c.toNat : Int) == 34) = true := by assumption
    have ho : oneR s c = quotedR s := by unfold oneR; rw [if_neg (by simp [h1']), if_neg (by simp [h2']), if_pos (by simp only [beq_iff_eq] at h3'; omega)]
    refine ret_tok rfl rfl H5.out rfl ⟨?_, below_put4 (hl1.out.trans (hbel.mono (by simp))) (Nat.le_refl _) _ _ _ _⟩
    rw [ho, HQ.out]
    try rfl
  all_goals have h1' : letterZ (c.toNat : Int) = false := by assumption
  all_goals have h2' : digitZ (c.toNat : Int) = false := by assumption
  all_goals have h3' : ((c.toNat : Int) == 34) = false := by assumption
  all_goals have h3'' : ¬ c.toNat = 34 := by simp only [beq_eq_false_iff_ne] at h3'; omega
  · have h4' : Lib.hasPrefix s.data.toList [61, 61] = true := by assumption
    have ho : oneR s c = (⟨4, s.extract 0 2, 0, 0⟩, 2, 0) := by unfold oneR; rw [if_neg (by simp [h1']), if_neg (by simp [h2']), if_neg h3'', if_pos (by simp [h4'])]
    refine ret_tok_new rfl rfl rfl ⟨?_, (Below.refl _ w).alloc (Nat.le_refl _) _⟩
    rw [ho]
    try rfl
  · have h4' : Lib.hasPrefix s.data.toList [61, 61] = true := by assumption
    have := prefix_size _ _ h4'
    simp at this
    omega
  · have h4' : Lib.hasPrefix s.data.toList [33, 61] = true := by assumption
    have ho : oneR s c = (⟨4, s.extract 0 2, 0, 0⟩, 2, 0) := by unfold oneR; rw [if_neg (by simp [h1']), if_neg (by simp [h2']), if_neg h3'', if_pos (by simp [h4'])]
    refine ret_tok_new rfl rfl rfl ⟨?_, (Below.refl _ w).alloc (Nat.le_refl _) _⟩
    rw [ho]
    try rfl
  · have h4' : Lib.hasPrefix s.data.toList [33, 61] = true := by assumption
    have := prefix_size _ _ h4'
    simp at this
    omega
  all_goals have h4' : ¬ Lib.hasPrefix s.data.toList [61, 61] = true := by assumption
  all_goals have h5' : Lib.hasPrefix s.data.toList [33, 61] = false := by assumption
  · have h6' : 0 ≤ Lib.indexByte [40, 41, 123, 125, 91, 93, 59, 44, 58, 46, 61, 60, 43, 45, 42, 33] c := by assumption
    have ho : oneR s c = (⟨4, s.extract 0 1, 0, 0⟩, 1, 0) := by
      unfold oneR
      rw [if_neg (by simp [h1']), if_neg (by simp [h2']), if_neg h3'', if_neg (by simp [h4', h5']), if_pos (show 0 ≤ Lib.indexByte signs.data.toList c from h6')]
    refine ret_tok_new rfl rfl rfl ⟨?_, (Below.refl _ w).alloc (Nat.le_refl _) _⟩
    rw [ho]
    try rfl
  · have h6' : Lib.indexByte [40, 41, 123, 125, 91, 93, 59, 44, 58, 46, 61, 60, 43, 45, 42, 33] c < 0 := by assumption
    have ho : oneR s c = (tok0, 0, 1) := by
      unfold oneR
      rw [if_neg (by simp [h1']), if_neg (by simp [h2']), if_neg h3'', if_neg (by simp [h4', h5']), if_neg (show ¬ 0 ≤ Lib.indexByte signs.data.toList c from by show ¬ 0 ≤ Lib.indexByte [40, 41, 123, 125, 91, 93, 59, 44, 58, 46, 61, 60, 43, 45, 42, 33] c; omega)]
    refine ret_tok_new rfl rfl rfl ⟨?_, (Below.refl _ w).alloc (Nat.le_refl _) _⟩
    rw [ho]
    try rfl
end Go.Proofs.YtlkhkalniekaoaaGreatDoor
end

section
/- What lex.Split answers: as a function; its token's length. -/
namespace Go.Proofs.YtlkhkalniekaoaaGreatDoor
open Go.RowKit Go.Shelf Go.Sort Go.Lib

theorem quotedS_bound : ∀ (m : Nat) (l acc : List UInt8) (i : Nat) (t : List UInt8) (n : Nat), l.length ≤ m → quotedS l acc i = some (t, n) → i + 1 ≤ n ∧ n ≤ i + l.length
  | _, [], _, _, _, _, _, h => by simp [quotedS] at h
  | 0, c :: r, _, _, _, _, hl, _ => by simp at hl
  | m + 1, c :: r, acc, i, t, n, hl, h => by
    cases r with
    | nil =>
      simp only [quotedS] at h
      split at h
      · cases h; simp
      · split at h
        · cases h
        · split at h
          · cases h
          · cases h
    | cons d r' =>
      simp only [quotedS] at h
      simp only [List.length_cons] at hl ⊢
      split at h
      · cases h; omega
      · split at h
        · split at h
          · have := quotedS_bound m r' _ _ t n (by omega) h; omega
          · split at h
            · have := quotedS_bound m r' _ _ t n (by omega) h; omega
            · cases h
        · split at h
          · cases h
          · have := quotedS_bound m (d :: r') _ _ t n (by simp; omega) h
            simp only [List.length_cons] at this
            omega

theorem runN_pos (p : Int → Bool) (l : List UInt8) (c : UInt8) (hc : l.head? = some c) (h : p (c.toNat : Int) = true) : 1 ≤ runN p l := by
  cases l with
  | nil => simp at hc
  | cons x r =>
    simp at hc
    subst hc
    unfold runN
    rw [List.takeWhile_cons_of_pos (by simpa using h)]
    simp

theorem oneR_pos (s : ByteArray) (c : UInt8) (hc : s.data.toList.head? = some c) (h : (oneR s c).2.2 = 0) : ∃ n : Nat, (oneR s c).2.1 = n ∧ 1 ≤ n ∧ n ≤ s.size := by
  have hs1 : 1 ≤ s.size := by
    rw [Lib.size_eq]
    cases hl : s.data.toList with
    | nil => rw [hl] at hc; simp at hc
    | cons _ _ => simp
  have hle := fun p => runN_le p s.data.toList
  rw [← Lib.size_eq] at hle
  unfold oneR at h ⊢
  split
  · rename_i h1
    refine ⟨_, rfl, runN_pos _ _ c hc (by unfold wordZ; rw [h1]; rfl), hle _⟩
  · rename_i h1
    rw [if_neg h1] at h
    split
    · rename_i h2
      rw [if_pos h2] at h
      unfold numberR at h ⊢
      split
      · rename_i x hx
        rw [hx] at h
        simp only at h ⊢
        split
        · rename_i h3; rw [if_pos h3] at h; simp at h
        · exact ⟨_, rfl, runN_pos _ _ c hc h2, hle _⟩
      · rename_i hx
        split at h
        · rename_i x hx'; exact absurd hx' (hx x)
        · simp at h
    · rename_i h2
      rw [if_neg h2] at h
      split
      · rename_i h3
        rw [if_pos h3] at h
        unfold quotedR at h ⊢
        split
        · rename_i t n hq
          have := quotedS_bound _ _ _ _ t n (Nat.le_refl _) hq
          simp only [List.length_drop, ← Lib.size_eq] at this
          exact ⟨n, rfl, by omega, by omega⟩
        · rename_i hq
          rw [hq] at h
          simp at h
      · rename_i h3
        rw [if_neg h3] at h
        split
        · rename_i h4
          refine ⟨2, rfl, by omega, ?_⟩
          simp only [Bool.or_eq_true] at h4
          rcases h4 with h4 | h4
          · have := prefix_size _ _ h4; simpa using this
          · have := prefix_size _ _ h4; simpa using this
        · rename_i h4
          rw [if_neg h4] at h
          split
          · exact ⟨1, rfl, by omega, hs1⟩
          · rename_i h5
            rw [if_neg h5] at h
            simp at h

def notNl (c : Int) : Bool := !decide (c = 10)
def endTok (s : ByteArray) : Tok := ⟨0, ⟨#[]⟩, 0, s.size⟩
def Tok.at (t : Tok) (i : Int) : Tok := ⟨t.k, t.t, t.n, i⟩
def splitGo (s : ByteArray) : Nat → Nat → List Tok → List Tok × Int × Int
  | 0, _, out => (out ++ [endTok s], 0, 0)
  | g + 1, i, out =>
    if h : i < s.size then
      if (s[i]'h).toNat = 32 ∨ (s[i]'h).toNat = 10 then splitGo s g (i + 1) out
      else if (s[i]'h).toNat = 35 then splitGo s g (i + runN notNl (s.data.toList.drop i)) out
      else
        if (oneR (s.extract i s.size) (s[i]'h)).2.2 = 0 then
          splitGo s g (i + (oneR (s.extract i s.size) (s[i]'h)).2.1.toNat) (out ++ [(oneR (s.extract i s.size) (s[i]'h)).1.at i])
        else ([], i, (oneR (s.extract i s.size) (s[i]'h)).2.2)
    else (out ++ [endTok s], 0, 0)
def splitR (s : ByteArray) : List Tok × Int × Int := if 8192 < s.size then ([], 0, 2) else splitGo s s.size 0 []
def Tok.cells (t : Tok) : List Value := [.int .i64 t.k, .string t.t, .int .i64 t.n, .int .i64 t.a]
def tokCells (l : List Tok) : List Value := (l.map Tok.cells).flatten
theorem tokCells_snoc (l : List Tok) (t : Tok) : tokCells (l ++ [t]) = tokCells l ++ t.cells := by simp [tokCells]
theorem tokCells_length (l : List Tok) : (tokCells l).length = l.length * 4 := by
  induction l with
  | nil => rfl
  | cons t l ih =>
    have : tokCells (t :: l) = t.cells ++ tokCells l := rfl
    rw [this, List.length_append, ih]
    simp [Tok.cells]
    omega
end Go.Proofs.YtlkhkalniekaoaaGreatDoor
end

section
/- paling/lex.Split. -/
namespace Go.Proofs.YtlkhkalniekaoaaGreatDoor
open Go.RowKit Go.Shelf Go.Sort Go.Lib

theorem tokInfo : (Tryz.prog.info? 155).map (fun i => (i.zero, i.size, i.bytes)) = some (some (.agg #[.int .i64 0, .string ⟨#[]⟩, .int .i64 0, .int .i64 0]), 4, 40) := by kernel_rfl

/-- The slice of tokens, owned by the call. -/
def Toks (B : Nat) (w : World) (v : Value) (l : List Tok) : Prop := w.ownsRow B 155 4 v l.length (tokCells l)

theorem extract_first (s : ByteArray) (k : Nat) (h : k < s.size) (hh : 0 < (s.extract k s.size).size) : (s.extract k s.size)[0]'hh = s[k]'h := by
  simp [ByteArray.getElem_extract]

theorem grown_later {w w' : World} (h : Later w w') : w.grownBy w' none := ⟨h.os, h.tape, h.output, h.size, fun k hk _ => h.block k hk⟩
theorem owned_later {w w' : World} {B : Nat} {e : TypeId} {sz : Nat} {v : Value} {n : Nat} {xs : List Value} (h : w.ownsRow B e sz v n xs) (k : Later w w') : w'.ownsRow B e sz v n xs :=
  h.kept (grown_later k) (by cases hv : v.ownBlock <;> simp)

theorem cells4_at {W : World} {N : Nat} (hN : N = W.heap.size) (a b c d : Value) (T : TypeId) (j : Nat) (u : Value) (hj : [a, b, c, d][j]? = some u) : (W.alloc (.cells #[a, b, c, d] T)).cell? ((⟨N, 0, none⟩ : Addr).add j) = some u := by
  subst hN
  obtain ⟨⟨c0, c1, c2, c3⟩, -⟩ := Four.new W a b c d T
  rw [Addr.add_mid]
  match j, hj with
  | 0, hj => simp at hj; subst hj; exact c0
  | 1, hj => simp at hj; subst hj; exact c1
  | 2, hj => simp at hj; subst hj; exact c2
  | 3, hj => simp at hj; subst hj; exact c3

set_option maxHeartbeats 8000000 in
set_option maxRecDepth 1000000 in
theorem lexSplit_any (s : ByteArray) (hs : s.size ≤ 1000000) (w : World) (hc : Calm w) :
    Calls Tryz.prog 104 #[.string s] w fun e w' => ∃ v, e = .returned (.tuple #[v, .int .i64 (splitR s).2.1, .int .i64 (splitR s).2.2]) ∧ Later w w' ∧ Toks w.heap.size w' v (splitR s).1 := by
  obtain ⟨i0, hi, hz0, hz1, hz2⟩ := info_parts tokInfo
  by_cases hbig : 8192 < s.size
  · have hR : Hid (splitR s = ([], 0, 2)) := by show _ = _; unfold splitR; rw [if_pos hbig]
    go_enter Tryz.func104, Tryz.ntmps104
    go_wp2
    go_step3
    go_wp2
    rw [Exit.noGoto_ret]
    go_ret3
    rw [hR.out]
    exact ⟨_, rfl, Below.refl _ _, World.ownsRow_nil _ _ _ _⟩
  · have hR : Hid (splitR s = splitGo s s.size 0 []) := by show _ = _; unfold splitR; rw [if_neg hbig]
    go_enter Tryz.func104, Tryz.ntmps104
    go_wp2
    go_step3
    go_wp2
    go_step3
    go_wp2
    go_loopg [5, 6] s.size (fun g v i wr => ∃ (k : Nat) (out : List Tok), s.size ≤ k + g ∧ k ≤ s.size ∧ out.length ≤ k ∧ i = .int .i64 k ∧ Aside (wr.ownsRow w.heap.size 155 4 v out.length (tokCells out)) ∧
        Aside (Later w wr) ∧ Aside (splitGo s s.size 0 [] = splitGo s g k out))
    case atStart => exact ⟨0, [], by omega, by omega, by simp, rfl, World.ownsRow_nil _ _ _ _, Below.refl _ _, rfl⟩
    case round =>
      obtain ⟨k, out, hk, hks, hol, rfl, HO, HL, HA⟩ := hrel
      by_cases hlt : k < s.size
      · obtain ⟨c, hcb⟩ : ∃ c, s[k]'hlt = c := ⟨_, rfl⟩
        have hsz : (s.extract k s.size).size ≤ 1000000 := by simp; omega
        have hs0 : 0 < (s.extract k s.size).size := by simp; omega
        rcases hor : oneR (s.extract k s.size) c with ⟨⟨tk, tt, tn, ta⟩, nn, er⟩
        have HOR : Aside (oneR (s.extract k s.size) c = _) := hor
        have HX : Aside ((s.extract k s.size)[0]'hs0 = c) := (extract_first s k hlt hs0).trans hcb
        clear hor
        by_cases hb : c.toNat = 32 ∨ c.toNat = 10
        · have hstep : ∀ g, splitGo s (g + 1) k out = splitGo s g (k + 1) out := fun g => by
            rw [splitGo, dif_pos hlt, hcb, if_pos hb]
          obtain ⟨g, rfl⟩ : ∃ g, gk = g + 1 := ⟨gk - 1, by omega⟩
          have HA2 : Aside (splitGo s s.size 0 [] = splitGo s g (k + 1) out) := HA.out.trans (hstep g)
          rcases hb with hb | hb
          · have n32 : ((c.toNat : Int) == 32) = true := by simp only [beq_iff_eq]; omega
            go_wp2
            go_roundg g
            case measure => omega
            case rel => exact ⟨k + 1, out, by omega, by omega, by omega, by go_num, HO, HL, HA2⟩
          · have n32 : ((c.toNat : Int) == 32) = false := by simp only [beq_eq_false_iff_ne]; omega
            have n10 : ((c.toNat : Int) == 10) = true := by simp only [beq_iff_eq]; omega
            go_wp2
            go_roundg g
            case measure => omega
            case rel => exact ⟨k + 1, out, by omega, by omega, by omega, by go_num, HO, HL, HA2⟩
        · have n32 : ((c.toNat : Int) == 32) = false := by simp only [beq_eq_false_iff_ne]; omega
          have n10 : ((c.toNat : Int) == 10) = false := by simp only [beq_eq_false_iff_ne]; omega
          by_cases h35 : c.toNat = 35
          · have n35 : ((c.toNat : Int) == 35) = true := by simp only [beq_iff_eq]; omega
            have hstep : ∀ g, splitGo s (g + 1) k out = splitGo s g (k + runN notNl (s.data.toList.drop k)) out := fun g => by
              rw [splitGo, dif_pos hlt, hcb, if_neg hb, if_pos h35]
            obtain ⟨G, rfl⟩ : ∃ g, gk = g + 1 := ⟨gk - 1, by omega⟩
            have HA2 : Aside (splitGo s s.size 0 [] = splitGo s G (k + runN notNl (s.data.toList.drop k)) out) := HA.out.trans (hstep G)
            obtain ⟨W1, rfl⟩ : ∃ W, W = wr := ⟨_, rfl⟩
            have hfirst : Aside (runN notNl (s.data.toList.drop k) = runN notNl (s.data.toList.drop (k + 1)) + 1) :=
              runN_drop _ _ _ _ (byte_at s k hlt) (by rw [hcb]; simp [notNl]; omega)
            go_wp2
            go_loopg [6] (s.size - k) (fun g i wx => ∃ j : Nat, j + g = s.size ∧ k ≤ j ∧ i = .int .i64 j ∧ wx = W1 ∧ Aside (k + runN notNl (s.data.toList.drop k) = j + runN notNl (s.data.toList.drop j)))
            case atStart => exact ⟨k, by omega, Nat.le_refl _, rfl, rfl, rfl⟩
            case round =>
              obtain ⟨j, hjk, hkj, rfl, rfl, HJ⟩ := hrel
              by_cases hjl : j < s.size
              · by_cases hnl : (s[j]'hjl).toNat = 10
                · have n10' : (((s[j]'hjl).toNat : Int) != 10) = false := by simp only [bne_eq_false_iff_eq]; omega
                  have hst : runN notNl (s.data.toList.drop j) = 0 := runN_stop _ _ _ _ (byte_at s j hjl) (by simp [notNl]; omega)
                  have HST : Aside (runN notNl (s.data.toList.drop j) = 0) := hst
                  clear hst
                  go_wp2
                  have e1 := HJ.out
                  have e2 := hfirst.out
                  rw [HST.out] at e1
                  have e3 : j = k + runN notNl (s.data.toList.drop k) := by omega
                  go_roundg G
                  case measure => omega
                  case rel => exact ⟨j, out, by omega, by omega, by omega, rfl, HO, HL, by rw [e3]; exact HA2⟩
                · have n10' : (((s[j]'hjl).toNat : Int) != 10) = true := by simp only [bne_iff_ne]; omega
                  have HST : Aside (runN notNl (s.data.toList.drop j) = runN notNl (s.data.toList.drop (j + 1)) + 1) := runN_drop _ _ _ _ (byte_at s j hjl) (by simp [notNl]; omega)
                  go_wp2
                  go_roundg (gk - 1)
                  case measure => omega
                  case rel => exact ⟨j + 1, by omega, by omega, by go_num, rfl, by have := HJ.out; have := HST.out; show _ = _; omega⟩
              · have hjs : j = s.size := by omega
                have HST : Aside (runN notNl (s.data.toList.drop j) = 0) := by
                  show _ = _
                  rw [List.drop_eq_nil_of_le (by rw [← Lib.size_eq]; omega)]
                  rfl
                go_wp2
                have e1 := HJ.out
                have e2 := hfirst.out
                rw [HST.out] at e1
                have e3 : j = k + runN notNl (s.data.toList.drop k) := by omega
                go_roundg G
                case measure => omega
                case rel => exact ⟨j, out, by omega, by omega, by omega, rfl, HO, HL, by rw [e3]; exact HA2⟩
          · have n35 : ((c.toNat : Int) == 35) = false := by simp only [beq_eq_false_iff_ne]; omega
            by_cases her : er = 0
            · subst her
              go_wp2_with (first
                | (go_at_call 151; refine (one_any _ hsz hs0 _ (hc.later HL.out)).mono ?_; rintro e w2 ⟨rfl, hbel⟩; rw [HX.out, HOR.out]; simp only [Tok.v]; have HB : Aside (Later wr w2) := hbel; clear hbel)
                | (at_builtin; refine wpList_append_own _ rfl (.tmp 53) (.tmp 55) 150 rfl w.heap.size 155 i0 (.agg #[.int .i64 0, .string ⟨#[]⟩, .int .i64 0, .int .i64 0]) 4 40 Tryz.underlying150 hi hz0 hz1 hz2 rfl (by decide) _ _ _ rfl (((owned_later HO.out HB.out).alloc _).alloc _) ⟨w2.heap.size + 1, 0, none⟩ 1 1 [.int .i64 tk, .string tt, .int .i64 tn, .int .i64 k] rfl rfl ?c1 ?c2 ?c3 ?c4 ?c5 ?_))
              case c1 => exact fun j u hj => cells4_at (by simp) _ _ _ _ _ j u hj
              case c2 =>
                intro u hu
                simp only [List.mem_cons, List.not_mem_nil, or_false] at hu
                rcases hu with rfl | rfl | rfl | rfl <;> rfl
              case c3 => unfold maxLen; omega
              case c4 => omega
              case c5 => have := HB.out.size; have := HL.out.size; simp; omega
              · intro v' w1 hown' hgrow _
                obtain ⟨n, hn, hn1, hn2⟩ := oneR_pos (s.extract k s.size) c ((head_is _ hs0 c).2 (by rw [HX.out])) (by rw [HOR.out])
                rw [HOR.out] at hn
                simp only at hn
                subst hn
                have hn3 : k + n ≤ s.size := by simp at hn2; omega
                obtain ⟨G, rfl⟩ : ∃ g, gk = g + 1 := ⟨gk - 1, by omega⟩
                have HA2 : Aside (splitGo s s.size 0 [] = splitGo s G (k + n) (out ++ [(⟨tk, tt, tn, (k : Int)⟩ : Tok)])) := by
                  refine HA.out.trans ?_
                  rw [splitGo, dif_pos hlt, hcb, if_neg hb, if_neg h35, HOR.out, if_pos rfl]
                  rfl
                have HO2 : Aside (w1.ownsRow w.heap.size 155 4 v' (out ++ [(⟨tk, tt, tn, (k : Int)⟩ : Tok)]).length (tokCells (out ++ [(⟨tk, tt, tn, (k : Int)⟩ : Tok)]))) := by
                  show World.ownsRow _ _ _ _ _ _ _
                  rw [tokCells_snoc, List.length_append]
                  exact hown'
                have HL2 : Aside (Later w w1) := by
                  have b1 : Below w.heap.size w w2 := HL.out.trans (HB.out.mono HL.out.size)
                  have z1 := b1.size
                  refine ((b1.alloc z1 _).alloc (by simp; omega) _).grown hgrow (by simp; omega) (fun q hq => ?_)
                  rcases HO.out.2 with ⟨hv, _⟩ | ⟨g, cap, cur, hv, hg, _⟩
                  · rw [hv] at hq; simp [Value.ownBlock] at hq
                  · rw [hv] at hq; simp [Value.ownBlock] at hq; omega
                clear hown' hgrow
                go_wp2
                go_roundg G
                case measure => omega
                case rel => exact ⟨k + n, _, by omega, by omega, by simp; omega, by go_num, HO2, HL2, HA2⟩
            · go_wp2_with (go_at_call 151; refine (one_any _ hsz hs0 _ (hc.later HL.out)).mono ?_; rintro e w2 ⟨rfl, hbel⟩; rw [HX.out, HOR.out]; simp only [Tok.v]; have HB : Aside (Later wr w2) := hbel; clear hbel)
              rw [Exit.noGoto_ret]
              go_ret3
              obtain ⟨G, rfl⟩ : ∃ g, gk = g + 1 := ⟨gk - 1, by omega⟩
              have hfin : splitR s = ([], (k : Int), er) := by
                rw [hR.out, HA.out, splitGo, dif_pos hlt, hcb, if_neg hb, if_neg h35, HOR.out, if_neg her]
              rw [hfin]
              exact ⟨_, rfl, ((HL.out.trans (HB.out.mono HL.out.size)).alloc (by have := HL.out.size; have := HB.out.size; omega) _), World.ownsRow_nil _ _ _ _⟩
      · have hkz : k = s.size := by omega
        subst hkz
        go_wp2_with (at_builtin; refine wpList_append_own _ rfl (.tmp 60) (.tmp 64) 150 rfl w.heap.size 155 i0 (.agg #[.int .i64 0, .string ⟨#[]⟩, .int .i64 0, .int .i64 0]) 4 40 Tryz.underlying150 hi hz0 hz1 hz2 rfl (by decide) _ _ _ rfl (HO.out.alloc _) ⟨wr.heap.size, 0, none⟩ 1 1 [.int .i64 0, .string ⟨#[]⟩, .int .i64 0, .int .i64 s.size] rfl rfl ?d1 ?d2 ?d3 ?d4 ?d5 ?_)
        case d1 => exact fun j u hj => cells4_at (by simp) _ _ _ _ _ j u hj
        case d2 =>
          intro u hu
          simp only [List.mem_cons, List.not_mem_nil, or_false] at hu
          rcases hu with rfl | rfl | rfl | rfl <;> rfl
        case d3 => unfold maxLen; omega
        case d4 => omega
        case d5 => have := HL.out.size; simp; omega
        · intro v' w1 hown' hgrow _
          have hfin : splitR s = (out ++ [endTok s], 0, 0) := by
            rw [hR.out, HA.out]
            cases gk with
            | zero => rfl
            | succ g => rw [splitGo, dif_neg (by omega)]
          have HF : Aside (splitR s = (out ++ [endTok s], 0, 0)) := hfin
          clear hfin
          have HO2 : Aside (w1.ownsRow w.heap.size 155 4 v' (out ++ [endTok s]).length (tokCells (out ++ [endTok s]))) := by
            show World.ownsRow _ _ _ _ _ _ _
            rw [tokCells_snoc, List.length_append]
            exact hown'
          have HL2 : Aside (Later w w1) := by
            have z1 := HL.out.size
            refine (HL.out.alloc z1 _).grown hgrow (by simp; omega) (fun q hq => ?_)
            rcases HO.out.2 with ⟨hv, _⟩ | ⟨g, cap, cur, hv, hg, _⟩
            · rw [hv] at hq; simp [Value.ownBlock] at hq
            · rw [hv] at hq; simp [Value.ownBlock] at hq; omega
          clear hown' hgrow
          go_wp2
          first | rw [Exit.noGoto_ret] | skip
          go_ret3
          rw [HF.out]
          exact ⟨_, rfl, HL2, HO2⟩
end Go.Proofs.YtlkhkalniekaoaaGreatDoor
end
