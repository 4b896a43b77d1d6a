/- Parts of the proof: Wr, Vk. -/
import Derived.Shelf.Strings.PiecesUse
import Derived.Lib.SlicesS
import Derived.Test.YtgioobgahlcdhaaGreatDoorQay
import Derived.Test.YtgioobgahlcdhaaGreatDoorQaz

set_option linter.unusedVariables false
set_option linter.unusedSimpArgs false

section
/- paling/script.Parse. -/
namespace Go.Proofs.YtgioobgahlcdhaaGreatDoor
open Go.RowKit Go.Shelf Go.Sort Go.Lib

theorem cmdInfo : (Tryz.prog.info? 38).map (fun i => (i.zero, i.size, i.bytes)) = some (some (.agg #[.int .i64 0, .slice none 0 0, .slice none 0 0, .string ⟨#[]⟩]), 4, 72) := by kernel_rfl
/-- What strings.TrimSpace leaves, as a string. -/
theorem trim_any (x : ByteArray) (hx : x.size ≤ 1000000) (w : World) (hc : Calm w) :
    Calls Tryz.prog 16 #[.string x] w fun e w' => e = .returned (.string ⟨(Lib.trimSpaceD x.data.toList).toArray⟩) ∧ Later w w' :=
  Tryz.strings_TrimSpace_any x w (by omega) hc.space hc.utf hc.white

theorem parseGo_step (ls : List ByteArray) (g i : Nat) (out : List Cmd) (x : ByteArray) (hx : ls[i]? = some x) : parseGo ls (g + 1) i out =
    if blankS x = true then parseGo ls g (i + 1) out
    else if out.length = 200 then ([], i + 1, 2)
    else match lineR (wordsOf x) with
      | .error e => ([], i + 1, e)
      | .ok c =>
        if c.k = 1 then
          if ls.length ≤ i + 1 + dotN (ls.drop (i + 1)) then ([], i + 1, 1)
          else parseGo ls g (i + 1 + dotN (ls.drop (i + 1)) + 1) (out ++ [{ c with src := joinS ((ls.drop (i + 1)).take (dotN (ls.drop (i + 1)))) }])
        else parseGo ls g (i + 1) (out ++ [c]) := by
  rw [parseGo, hx]
  first | done | rfl
theorem Cmds.mono {w : World} {B B' : Nat} (hB : B' ≤ B) : ∀ {l : List Cmd} {xs : List Value}, Cmds w B l xs → Cmds w B' l xs
  | [], _, h => h
  | _ :: _, _, ⟨a, t, hx, ⟨p1, n1, c1, p2, n2, c2, he, h1, h2⟩, ht⟩ => ⟨a, t, hx, ⟨p1, n1, c1, p2, n2, c2, he, own_mono h1 hB, own_mono h2 hB⟩, Cmds.mono hB ht⟩
theorem splitK_sub (sep : List UInt8) (save : Nat) : ∀ (k : Nat) (s p : List UInt8), p ∈ Lib.splitK sep save k s → p.Sublist s
  | 0, s, p, h => by
    simp [Lib.splitK] at h
    subst h
    exact List.Sublist.refl _
  | k + 1, s, p, h => by
    unfold Lib.splitK at h
    split at h
    · simp at h
      subst h
      exact List.Sublist.refl _
    · rcases List.mem_cons.1 h with rfl | h
      · exact List.take_sublist _ _
      · exact (splitK_sub sep save k _ p h).trans (List.drop_sublist _ _)
theorem lines_size (s : ByteArray) : ∀ x ∈ linesOf s, x.size ≤ s.size := by
  intro x hx
  have h := splitK_sub [10] 0 _ s.data.toList x.data.toList (by
    have hd := Lib.splitB_data ⟨#[10]⟩ 0 (Lib.countB s ⟨#[10]⟩) s
    rw [← hd]
    exact List.mem_map_of_mem hx)
  rw [Lib.size_eq, Lib.size_eq]
  exact h.length_le
theorem dotN_go {ls : List ByteArray} {j : Nat} {y : ByteArray} (hy : ls[j]? = some y) (h : (y.toList == [46]) = false) : dotN (ls.drop j) = dotN (ls.drop (j + 1)) + 1 := by
  rw [Lib.drop_at hy]
  unfold dotN
  rw [List.takeWhile_cons_of_pos (by simp only [h]; first | done | rfl)]
  first | done | rfl
theorem dotN_stop {ls : List ByteArray} {j : Nat} {y : ByteArray} (hy : ls[j]? = some y) (h : (y.toList == [46]) = true) : dotN (ls.drop j) = 0 := by
  rw [Lib.drop_at hy]
  unfold dotN
  rw [List.takeWhile_cons_of_neg (by simp only [h]; decide)]
  first | done | rfl
theorem lens_small : ∀ (xs : List ByteArray), (∀ x ∈ xs, x.size ≤ 65536) → Lib.lens (xs.map (·.data.toList)) ≤ xs.length * 65536
  | [], _ => by simp [Lib.lens]
  | x :: r, h => by
    have h1 := lens_small r (fun y hy => h y (by simp [hy]))
    have h2 := h x (by simp)
    rw [Lib.size_eq] at h2
    unfold Lib.lens at h1 ⊢
    rw [List.map_cons, List.map_cons, List.sum_cons, List.length_cons]
    omega
theorem join_small (xs : List ByteArray) (h : ∀ x ∈ xs, x.size ≤ 65536) (hl : xs.length ≤ 65537) : (Lib.join (xs.map (·.data.toList)) [10]).length ≤ 140737488355328 := by
  cases xs with
  | nil => simp [Lib.join]
  | cons x r =>
    have := lens_small (x :: r) h
    rw [List.map_cons, Lib.join_length]
    rw [List.map_cons] at this
    simp only [List.length_map, List.length_cons, List.length_nil] at this hl ⊢
    omega
theorem line_err (x : ByteArray) (hs : x.size ≤ 1000000) (w : World) (hc : Calm w) (hf : w.rangeAt 1 0 formCells.toList) (hne : wordsOf x ≠ []) (hlen : (wordsOf x).length ≤ 1000000) (hws : ∀ y ∈ wordsOf x, y.size ≤ 1000000) (er : Int) (h : lineR (wordsOf x) = .error er) :
    Calls Tryz.prog 17 #[.string x] w fun e w' => er ≠ 0 ∧ ∃ kk p1 n1 c1 p2 n2 c2 src, e = .returned (.tuple #[.agg #[.int .i64 kk, .slice p1 n1 c1, .slice p2 n2 c2, .string src], .int .i64 er]) ∧ Later w w' := by
  refine (line_any x hs w hc hf hne hlen hws).mono ?_
  rintro e w' ⟨kk, p1, n1, c1, p2, n2, c2, src, er', rfl, hl, ⟨y, hy, rfl, hy0⟩ | ⟨c, hc', _⟩⟩
  · rw [h] at hy
    cases hy
    exact ⟨hy0, kk, p1, n1, c1, p2, n2, c2, src, rfl, hl⟩
  · rw [h] at hc'; cases hc'
theorem line_ok (x : ByteArray) (hs : x.size ≤ 1000000) (w : World) (hc : Calm w) (hf : w.rangeAt 1 0 formCells.toList) (hne : wordsOf x ≠ []) (hlen : (wordsOf x).length ≤ 1000000) (hws : ∀ y ∈ wordsOf x, y.size ≤ 1000000) (c : Cmd) (h : lineR (wordsOf x) = .ok c) :
    Calls Tryz.prog 17 #[.string x] w fun e w' => ∃ p1 n1 c1 p2 n2 c2, e = .returned (.tuple #[.agg #[.int .i64 c.k, .slice p1 n1 c1, .slice p2 n2 c2, .string c.src], .int .i64 0]) ∧ Later w w' ∧
      w'.ownsRow w.heap.size 3 1 (.slice p1 n1 c1) c.ns.length (c.ns.map (Value.int .i64)) ∧ w'.ownsRow w.heap.size 43 5 (.slice p2 n2 c2) c.al.length (argCells c.al) := by
  refine (line_any x hs w hc hf hne hlen hws).mono ?_
  rintro e w' ⟨kk, p1, n1, c1, p2, n2, c2, src, er', rfl, hl, ⟨y, hy, rfl, hy0⟩ | ⟨d, hd, rfl, rfl, rfl, h1, h2⟩⟩
  · rw [h] at hy; cases hy
  · rw [h] at hd
    cases hd
    exact ⟨p1, n1, c1, p2, n2, c2, rfl, hl, h1, h2⟩
def ParsePost (s : ByteArray) (w : World) (e : Ending) (w' : World) : Prop :=
  ∃ v xs, e = .returned (.tuple #[v, .int .i64 (parseR s).2.1, .int .i64 (parseR s).2.2]) ∧ Later w w' ∧ w'.ownsRow w.heap.size 38 4 v (parseR s).1.length xs ∧ Cmds w' w.heap.size (parseR s).1 xs

set_option maxHeartbeats 4000000 in
set_option maxRecDepth 1000000 in
theorem parse_any (s : ByteArray) (w : World) (hc : Calm w) (hf : w.rangeAt 1 0 formCells.toList) (hs0 : s.size ≤ 1000000) :
    Calls Tryz.prog 7 #[.string s] w (ParsePost s w) := by
  have HF : Aside (w.rangeAt 1 0 formCells.toList) := hf
  clear hf
  obtain ⟨i0, hi, hz0, hz1, hz2⟩ := info_parts cmdInfo
  by_cases hbig : 65536 < s.size
  · have hR : Aside (parseR s = ([], 0, 2)) := by show _ = _; unfold parseR; rw [if_pos hbig]
    go_enter Tryz.func7, Tryz.ntmps7
    go_wp2
    go_ret3
    refine ⟨.slice none 0 0, [], ?_, Below.refl _ _, ?_, ?_⟩
    · rw [hR.out]; first | done | rfl
    · rw [hR.out]; exact World.ownsRow_nil _ _ _ _
    · rw [hR.out]; first | done | rfl
  · have hR : Aside (parseR s = parseGo (linesOf s) (linesOf s).length 0 []) := by show _ = _; unfold parseR; rw [if_neg hbig]
    obtain ⟨m, hm⟩ := hc.most
    have hlen : (linesOf s).length = Lib.countB s ⟨#[10]⟩ + 1 := Lib.splitB_all ⟨#[10]⟩ (by decide) 0 _ s rfl
    have hcnt : Lib.countB s ⟨#[10]⟩ ≤ s.size := Lib.countB_le ⟨#[10]⟩ (by decide) s.size s (Nat.le_refl _)
    have hsub : ∀ x ∈ linesOf s, x.size ≤ s.size := lines_size s
    have cS : Calls Tryz.prog 15 #[.string s, .string ⟨#[10]⟩] w fun e w' => e = .returned (.slice (some ⟨w.heap.size, 0, none⟩) (linesOf s).length (linesOf s).length) ∧ Later w w' ∧
        ∀ (j : Nat) (x : ByteArray), (linesOf s)[j]? = some x → w'.cell? ⟨w.heap.size, j, none⟩ = some (.string x) := by
      refine (Tryz.strings_Split s ⟨#[10]⟩ m w (by omega) hm (by decide)).mono ?_
      rintro e w' ⟨rfl, rfl⟩
      rw [hlen]
      refine ⟨rfl, (Below.refl _ w).alloc (Nat.le_refl _) _, fun j x hj => ?_⟩
      have := Lib.pieces_cell_at w (linesOf s) 9 j x hj
      exact this
    obtain ⟨ls, hls⟩ : ∃ ls, linesOf s = ls := ⟨_, rfl⟩
    rw [hls] at hlen hsub cS hR
    clear hls
    obtain ⟨n, hn⟩ : ∃ n, ls.length = n := ⟨_, rfl⟩
    rw [hn] at hlen cS hR
    have HN : Aside (ls.length = n) := hn
    have hn6 : n ≤ 65537 := by omega
    clear hn hlen
    have HSB : Aside (∀ x ∈ ls, x.size ≤ 65536) := fun x hx => Nat.le_trans (hsub x hx) (by omega)
    clear hsub
    go_enter Tryz.func7, Tryz.ntmps7
    go_wp2_with (go_at_call 15; refine cS.mono ?_; rintro e w1 ⟨rfl, hb, hcells⟩; have HL1 : Aside (Later w w1) := hb; clear hb; have HC : Aside (∀ (j : Nat) (x : ByteArray), ls[j]? = some x → w1.cell? ⟨w.heap.size, j, none⟩ = some (.string x)) := hcells; clear hcells)
    clear cS
    go_loopg [5, 7] n (fun g v i wr => ∃ (k : Nat) (out : List Cmd) (xs : List Value), n ≤ k + g ∧ k ≤ n ∧ i = .int .i64 k ∧ out.length ≤ 200 ∧ Aside (Later w1 wr) ∧ Aside (parseR s = parseGo ls g k out) ∧
      Aside (wr.ownsRow w1.heap.size 38 4 v out.length xs) ∧ Aside (Cmds wr w1.heap.size out xs))
    case atStart => exact ⟨0, [], [], by omega, by omega, rfl, by simp, Below.refl _ _, hR.out, World.ownsRow_nil _ _ _ _, rfl⟩
    case round =>
      obtain ⟨k, out, xs, hk, hkn, rfl, ho2, HL, HP, HO, HCm⟩ := hrel
      have hz1' := HL1.out.size
      have hz2' := HL.out.size
      obtain ⟨vp, vc, rfl⟩ := own_len HO.out
      by_cases hlt : k < n
      · obtain ⟨x, hx⟩ : ∃ x, ls[k]? = some x := ⟨_, List.getElem?_eq_getElem (by have := HN.out; omega)⟩
        have HX : Aside (ls[k]? = some x) := hx
        have hxs : x.size ≤ 65536 := HSB.out x (List.mem_of_getElem? hx)
        have hxc : wr.cell? ⟨w.heap.size, k, none⟩ = some (.string x) := HL.out.cellOf (HC.out k x hx)
        have HLw : Aside (Later w wr) := HL1.out.trans (HL.out.mono (by omega))
        clear hx
        obtain ⟨tb, htb⟩ : ∃ tb : ByteArray, (⟨(Lib.trimSpaceD x.data.toList).toArray⟩ : ByteArray) = tb := ⟨_, rfl⟩
        have htd : tb.data.toList = Lib.trimSpaceD x.data.toList := by rw [← htb]
        have cT := trim_any x (by omega) wr (hc.later HLw.out)
        rw [htb] at cT
        obtain ⟨G, hG⟩ : ∃ g, gk = g + 1 := ⟨gk - 1, by omega⟩
        subst hG
        have HST : Aside _ := parseGo_step ls G k out x HX.out
        clear htb
        by_cases hbl : blankS x = true
        · have HP2 : Aside (parseR s = parseGo ls G (k + 1) out) := by
            show _ = _
            rw [HP.out, HST.out]
            simp only [hbl, if_true]
          by_cases hem : tb.data.toList = []
          · have he : tb.toList.isEmpty = true := by rw [Lib.toList_data, hem]; first | done | rfl
            clear hem htd hbl
            go_wp2_with (go_at_call 16; refine cT.mono ?_; rintro e w2 ⟨rfl, hb⟩; have HB2 : Aside (Later wr w2) := hb; clear hb)
            go_roundg G
            case measure => omega
            case rel => exact ⟨k + 1, out, xs, by omega, by omega, by go_num, ho2, Later.step HL.out HB2.out, HP2.out, owned_later HO.out HB2.out, HCm.out.later HB2.out⟩
          · have he : tb.toList.isEmpty = false := by
              rw [Lib.toList_data]
              cases h : tb.data.toList with
              | nil => exact absurd h hem
              | cons _ _ => rfl
            have hsz : 0 < tb.size := by rw [Lib.size_eq]; exact List.length_pos_iff.2 hem
            have h59 : ((tb[0]'hsz).toNat : Int) = 59 := by
              have h := hbl
              unfold blankS at h
              rw [← htd] at h
              have h' : tb.data.toList.head? = some 59 := by
                cases ht : tb.data.toList with
                | nil => exact absurd ht hem
                | cons a r => rw [ht] at h; simpa using h
              exact (head_is tb hsz 59).1 h'
            clear hem htd hbl
            go_wp2_with (go_at_call 16; refine cT.mono ?_; rintro e w2 ⟨rfl, hb⟩; have HB2 : Aside (Later wr w2) := hb; clear hb)
            all_goals go_roundg G
            all_goals first
              | omega
              | exact ⟨k + 1, out, xs, by omega, by omega, by go_num, ho2, Later.step HL.out HB2.out, HP2.out, owned_later HO.out HB2.out, HCm.out.later HB2.out⟩
        · have hem : tb.data.toList ≠ [] := by
            intro hh
            apply hbl
            unfold blankS
            rw [← htd, hh]
            first | done | rfl
          have he : tb.toList.isEmpty = false := by
            rw [Lib.toList_data]
            cases h : tb.data.toList with
            | nil => exact absurd h hem
            | cons _ _ => rfl
          have hsz : 0 < tb.size := by rw [Lib.size_eq]; exact List.length_pos_iff.2 hem
          have h59 : ((tb[0]'hsz).toNat : Int) ≠ 59 := by
            intro hh
            apply hbl
            unfold blankS
            rw [← htd, (head_is tb hsz 59).2 hh]
            simp
          have hwn : wordsOf x ≠ [] := line_words x (by rw [← htd]; exact hem)
          have hwl : (wordsOf x).length ≤ 1000000 := by have := words_count x; omega
          have hws : ∀ y ∈ wordsOf x, y.size ≤ 1000000 := fun y hy => by have := words_size x y hy; omega
          have HWN : Aside _ := hwn
          have HWS : Aside _ := hws
          have HWL : Aside _ := hwl
          have HBL : Aside (¬ blankS x = true) := hbl
          clear hwn hwl hws hbl hem htd
          by_cases h200 : out.length = 200
          · have HP2 : Aside (parseR s = ([], (k : Int) + 1, 2)) := by
              show _ = _
              rw [HP.out, HST.out, if_neg HBL.out, if_pos h200]
            have h200' : ((out.length : Nat) : Int) = 200 := by omega
            clear h200
            go_wp2_with (go_at_call 16; refine cT.mono ?_; rintro e w2 ⟨rfl, hb⟩; have HB2 : Aside (Later wr w2) := hb; clear hb)
            go_ret3
            refine ⟨.slice none 0 0, [], ?_, HLw.out.trans (HB2.out.mono (by omega)), ?_, ?_⟩
            · rw [HP2.out]; first | done | rfl
            · rw [HP2.out]; exact World.ownsRow_nil _ _ _ _
            · rw [HP2.out]; first | done | rfl
          · have h200' : ¬ ((out.length : Nat) : Int) = 200 := by omega
            have HFr : ∀ w2, Later wr w2 → w2.rangeAt 1 0 formCells.toList := fun w2 hb => range_later HF.out (HLw.out.trans (hb.mono (by omega)))
            have HCa : ∀ w2, Later wr w2 → Calm w2 := fun w2 hb => hc.later (HLw.out.trans (hb.mono (by omega)))
            have hL0 : w.heap.size ≤ wr.heap.size := by omega
            cases hlr : lineR (wordsOf x) with
            | error er =>
              have HLR : Aside (lineR (wordsOf x) = .error er) := hlr
              clear hlr
              have HP2 : Aside (parseR s = ([], (k : Int) + 1, er)) := by
                show _ = _
                rw [HP.out, HST.out, if_neg HBL.out, if_neg h200, HLR.out]
              clear h200
              have A1 : Aside _ := HFr
              have A2 : Aside _ := HCa
              clear HFr HCa
              go_wp2_with (first
                | (go_at_call 16; refine cT.mono ?_; rintro e w2 ⟨rfl, hb⟩; have HB2 : Aside (Later wr w2) := hb; clear hb; have hxc2 : w2.cell? ⟨w.heap.size, k, none⟩ = some (.string x) := HB2.out.cellOf hxc)
                | (go_at_call 17; refine (line_err x (by omega) _ (A2.out _ HB2.out) (A1.out _ HB2.out) HWN.out HWL.out HWS.out er HLR.out).mono ?_; rintro e w3 ⟨her0, kk, p1, n1, c1, p2, n2, c2, src, rfl, hb⟩; have HB3 : Aside (Later w2 w3) := hb; clear hb))
              go_ret3
              refine ⟨.slice none 0 0, [], ?_, ((HLw.out.trans (HB2.out.mono hL0)).trans (HB3.out.mono (by have := HB2.out.size; omega))).alloc (by have := HB2.out.size; have := HB3.out.size; omega) _, ?_, ?_⟩
              · rw [HP2.out]; first | done | rfl
              · rw [HP2.out]; exact World.ownsRow_nil _ _ _ _
              · rw [HP2.out]; first | done | rfl
            | ok c =>
              have HLR : Aside (lineR (wordsOf x) = .ok c) := hlr
              clear hlr
              have A1 : Aside _ := HFr
              have A2 : Aside _ := HCa
              clear HFr HCa
              by_cases hk1 : c.k = 1
              · rcases c with ⟨ck, cns, cal, csrc⟩
                simp only at hk1
                subst hk1
                obtain ⟨W1, rfl⟩ : ∃ W, W = wr := ⟨_, rfl⟩
                have HST2 : Aside (parseR s = if n ≤ k + 1 + dotN (ls.drop (k + 1)) then ([], (k : Int) + 1, 1)
                    else parseGo ls G (k + 1 + dotN (ls.drop (k + 1)) + 1) (out ++ [(⟨1, cns, cal, joinS ((ls.drop (k + 1)).take (dotN (ls.drop (k + 1))))⟩ : Cmd)])) := by
                  show _ = _
                  rw [HP.out, HST.out, if_neg HBL.out, if_neg h200, HLR.out]
                  simp only [if_true]
                  rw [HN.out]
                clear h200
                go_wp2_with (first
                  | (go_at_call 16; refine cT.mono ?_; rintro e w2 ⟨rfl, hb⟩; have HB2 : Aside (Later W1 w2) := hb; clear hb; have hxc2 : w2.cell? ⟨w.heap.size, k, none⟩ = some (.string x) := HB2.out.cellOf hxc)
                  | (go_at_call 17; refine (line_ok x (by omega) _ (A2.out _ HB2.out) (A1.out _ HB2.out) HWN.out HWL.out HWS.out _ HLR.out).mono ?_; rintro e w3 ⟨p1, n1, c1, p2, n2, c2, rfl, hb, ho1', ho2'⟩; have HB3 : Aside (Later w2 w3) := hb; clear hb; have O1 : Aside (World.ownsRow _ _ _ _ _ _ _) := ho1'; have O2 : Aside (World.ownsRow _ _ _ _ _ _ _) := ho2'; clear ho1' ho2'; simp only []))
                have b23 : Later W1 w3 := Later.step HB2.out HB3.out
                have B23 : Aside (Later W1 w3) := b23
                have z2 := HB2.out.size
                have z3 := HB3.out.size
                have HC3 : Aside (∀ (o : Obj) (q : Nat) (y : ByteArray), ls[q]? = some y → (w3.alloc o).cell? ⟨w.heap.size, q, none⟩ = some (.string y)) := fun o q y hy =>
                  (World.cell?_alloc_past _ _ _ (cell_lt (b23.cellOf (HL.out.cellOf (HC.out q y hy))))).trans (b23.cellOf (HL.out.cellOf (HC.out q y hy)))
                clear b23 hxc hxc2
                go_loopg [7] (n - (k + 1)) (fun g i wx => ∃ j : Nat, j + g = n ∧ k + 1 ≤ j ∧ i = .int .i64 j ∧ wx = w3.alloc (.cells #[.int .i64 1, .slice p1 n1 c1, .slice p2 n2 c2, .string csrc] 38) ∧ Aside (k + 1 + dotN (ls.drop (k + 1)) = j + dotN (ls.drop j)))
                case atStart => exact ⟨k + 1, by omega, by omega, by go_num, rfl, rfl⟩
                case round =>
                  obtain ⟨j, hjn, hkj, rfl, rfl, HD⟩ := hrel
                  by_cases hj : j < n
                  · obtain ⟨y, hy⟩ : ∃ y, ls[j]? = some y := ⟨_, List.getElem?_eq_getElem (by have := HN.out; omega)⟩
                    have HY : Aside (ls[j]? = some y) := hy
                    have hyc := HC3.out (.cells #[.int .i64 1, .slice p1 n1 c1, .slice p2 n2 c2, .string csrc] 38) j y hy
                    clear hy
                    cases hdot : (y.toList == [46]) with
                    | false =>
                      have HD2 : Aside (dotN (ls.drop j) = dotN (ls.drop (j + 1)) + 1) := dotN_go HY.out hdot
                      go_wp2
                      go_roundg (gk - 1)
                      case measure => omega
                      case rel => exact ⟨j + 1, by omega, by omega, by go_num, rfl, by have := HD.out; have := HD2.out; show _ = _; omega⟩
                    | true =>
                      have HD2 : Aside (dotN (ls.drop j) = 0) := dotN_stop HY.out hdot
                      have hd1 : k + 1 + dotN (ls.drop (k + 1)) = j := by have := HD.out; have := HD2.out; omega
                      have hd2 : dotN (ls.drop (k + 1)) = j - (k + 1) := by omega
                      obtain ⟨J, hJ⟩ : ∃ J, joinS ((ls.drop (k + 1)).take (j - (k + 1))) = J := ⟨_, rfl⟩
                      have HP2 : Aside (parseR s = parseGo ls G (j + 1) (out ++ [(⟨1, cns, cal, J⟩ : Cmd)])) := by
                        show _ = _
                        rw [HST2.out, if_neg (by omega), hd1, hd2, hJ]
                      have JC : Calls Tryz.prog 18 #[.slice (some ⟨w.heap.size, k + 1, none⟩) (j - (k + 1)) (n - (k + 1)), .string ⟨#[10]⟩] (w3.alloc (.cells #[.int .i64 1, .slice p1 n1 c1, .slice p2 n2 c2, .string csrc] 38)) fun e w' => e = .returned (.string J) ∧ Later (w3.alloc (.cells #[.int .i64 1, .slice p1 n1 c1, .slice p2 n2 c2, .string csrc] 38)) w' := by
                        have hxl : ((ls.drop (k + 1)).take (j - (k + 1))).length = j - (k + 1) := by rw [List.length_take, List.length_drop, HN.out]; omega
                        have h := Tryz.strings_Join w.heap.size (k + 1) (n - (k + 1)) ((ls.drop (k + 1)).take (j - (k + 1))) ⟨#[10]⟩ (w3.alloc (.cells #[.int .i64 1, .slice p1 n1 c1, .slice p2 n2 c2, .string csrc] 38))
                          (fun q y hy => by
                            rw [List.getElem?_take] at hy
                            split at hy
                            · rw [List.getElem?_drop] at hy
                              exact HC3.out _ _ y hy
                            · cases hy)
                          (cell_lt hyc) (by rw [hxl]; omega) (by rw [hxl]; omega)
                          (join_small _ (fun y hy => HSB.out y (List.mem_of_mem_drop (List.mem_of_mem_take hy))) (by rw [hxl]; omega))
                        rw [hxl] at h
                        refine h.mono ?_
                        rintro e w' ⟨rfl, hb⟩
                        rw [← hJ]
                        exact ⟨rfl, hb⟩
                      have HJC : Aside _ := JC
                      clear JC hd1 hd2 hJ
                      go_wp2_with (first
                        | (go_at_call 18; go_must (refine Calls.mono HJC.out ?_; rintro e w5 ⟨rfl, hb⟩; have HB5 : Aside (Later (w3.alloc (.cells #[.int .i64 1, .slice p1 n1 c1, .slice p2 n2 c2, .string csrc] 38)) w5) := hb; have f5 := (Four.new w3 _ _ _ _ _).later hb (by simp); obtain ⟨⟨g0, g1, g2, g3⟩, k0, k1, k2, k3⟩ := id f5; clear hb f5))
                        | (at_builtin; refine wpList_append_own _ rfl (.tmp 85) (.tmp 87) 25 rfl w1.heap.size 38 i0 (.agg #[.int .i64 0, .slice none 0 0, .slice none 0 0, .string ⟨#[]⟩]) 4 72 Tryz.underlying25 hi hz0 hz1 hz2 rfl (by decide) (.slice vp out.length vc) out.length xs (by simp [Act.eval, Act.put]) ((owned_later (owned_later HO.out B23.out) ((((Below.refl _ w3).alloc (Nat.le_refl _) _).trans (HB5.out.mono (by simp))).setCell (p := ⟨w3.heap.size, 3, none⟩) (Nat.le_refl _) (.string J))).alloc _) ⟨w5.heap.size, 0, none⟩ 1 1 [.int .i64 1, .slice p1 n1 c1, .slice p2 n2 c2, .string J] rfl rfl ?_ ?_ ?_ ?_ ?_ ?_; rotate_right; intro v' w4 hown' hgrow _))
                      · have b36 : Later w3 (w5.setCell ⟨w3.heap.size, 3, none⟩ (.string J)) := (((Below.refl _ w3).alloc (Nat.le_refl _) _).trans (HB5.out.mono (by simp))).setCell (p := ⟨w3.heap.size, 3, none⟩) (Nat.le_refl _) (.string J)
                        have b37 : Later w3 ((w5.setCell ⟨w3.heap.size, 3, none⟩ (.string J)).alloc (.cells #[.int .i64 1, .slice p1 n1 c1, .slice p2 n2 c2, .string J] 38)) := b36.alloc b36.size _
                        have b27 : Later W1 ((w5.setCell ⟨w3.heap.size, 3, none⟩ (.string J)).alloc (.cells #[.int .i64 1, .slice p1 n1 c1, .slice p2 n2 c2, .string J] 38)) := Later.step B23.out b37
                        have HO3 : ((w5.setCell ⟨w3.heap.size, 3, none⟩ (.string J)).alloc (.cells #[.int .i64 1, .slice p1 n1 c1, .slice p2 n2 c2, .string J] 38)).ownsRow w1.heap.size 38 4 (.slice vp out.length vc) out.length xs := owned_later HO.out b27
                        have HC3' : CmdCells ((w5.setCell ⟨w3.heap.size, 3, none⟩ (.string J)).alloc (.cells #[.int .i64 1, .slice p1 n1 c1, .slice p2 n2 c2, .string J] 38)) w1.heap.size ⟨1, cns, cal, J⟩ [.int .i64 1, .slice p1 n1 c1, .slice p2 n2 c2, .string J] :=
                          ⟨p1, n1, c1, p2, n2, c2, rfl, own_mono (owned_later O1.out b37) (by omega), own_mono (owned_later O2.out b37) (by omega)⟩
                        have HM3 : Cmds ((w5.setCell ⟨w3.heap.size, 3, none⟩ (.string J)).alloc (.cells #[.int .i64 1, .slice p1 n1 c1, .slice p2 n2 c2, .string J] 38)) w1.heap.size out xs := HCm.out.later b27
                        have HOF : Aside (w4.ownsRow w1.heap.size 38 4 v' (out ++ [(⟨1, cns, cal, J⟩ : Cmd)]).length (xs ++ [.int .i64 1, .slice p1 n1 c1, .slice p2 n2 c2, .string J])) := by
                          show World.ownsRow _ _ _ _ _ _ _
                          rw [List.length_append]
                          exact hown'
                        have HCF : Aside (Cmds w4 w1.heap.size (out ++ [(⟨1, cns, cal, J⟩ : Cmd)]) (xs ++ [.int .i64 1, .slice p1 n1 c1, .slice p2 n2 c2, .string J])) :=
                          Cmds.snoc (HC3'.grown HO3 hgrow) (HM3.grown HO3 hgrow)
                        have HLF : Aside (Later w1 w4) :=
                          (HL.out.trans (b27.mono (by omega))).grown hgrow (Nat.le_trans (by omega) b27.size) (fun q hq => own_block HO.out q hq)
                        clear hown' hgrow
                        go_wp2
                        go_roundg G
                        case measure => omega
                        case rel => exact ⟨j + 1, _, _, by omega, by omega, by go_num, by simp; omega, HLF.out, HP2.out, HOF.out, HCF.out⟩
                      all_goals first
                        | exact ⟨rfl, rfl, rfl, rfl⟩
                        | (unfold maxLen; omega)
                        | omega
                        | (have := HB5.out.size; simp at this ⊢; omega)
                        | exact fun q u hq => cells4_at (by simp [World.setCell]) _ _ _ _ _ q u hq
                        | (intro u hu; simp only [List.mem_cons, List.not_mem_nil, or_false] at hu; rcases hu with rfl | rfl | rfl | rfl <;> rfl)
                  · have hjz : j = n := by omega
                    subst hjz
                    have HP2 : Aside (parseR s = ([], (k : Int) + 1, 1)) := by
                      show _ = _
                      rw [HST2.out, if_pos (by have := HD.out; omega)]
                    go_wp2
                    go_ret3
                    refine ⟨.slice none 0 0, [], ?_, (HLw.out.trans (B23.out.mono hL0)).alloc (by omega) _, ?_, ?_⟩
                    · rw [HP2.out]; first | done | rfl
                    · rw [HP2.out]; exact World.ownsRow_nil _ _ _ _
                    · rw [HP2.out]; first | done | rfl
              · have HP2 : Aside (parseR s = parseGo ls G (k + 1) (out ++ [c])) := by
                  show _ = _
                  rw [HP.out, HST.out, if_neg HBL.out, if_neg h200, HLR.out]
                  simp only [hk1, if_false]
                clear h200
                rcases c with ⟨ck, cns, cal, csrc⟩
                simp only at hk1
                go_wp2_with (first
                  | (go_at_call 16; refine cT.mono ?_; rintro e w2 ⟨rfl, hb⟩; have HB2 : Aside (Later wr w2) := hb; clear hb; have hxc2 : w2.cell? ⟨w.heap.size, k, none⟩ = some (.string x) := HB2.out.cellOf hxc)
                  | (go_at_call 17; refine (line_ok x (by omega) _ (A2.out _ HB2.out) (A1.out _ HB2.out) HWN.out HWL.out HWS.out _ HLR.out).mono ?_; rintro e w3 ⟨p1, n1, c1, p2, n2, c2, rfl, hb, ho1', ho2'⟩; have HB3 : Aside (Later w2 w3) := hb; clear hb; have O1 : Aside (World.ownsRow _ _ _ _ _ _ _) := ho1'; have O2 : Aside (World.ownsRow _ _ _ _ _ _ _) := ho2'; clear ho1' ho2'; simp only [])
                  | (at_builtin; refine wpList_append_own _ rfl (.tmp 85) (.tmp 87) 25 rfl w1.heap.size 38 i0 (.agg #[.int .i64 0, .slice none 0 0, .slice none 0 0, .string ⟨#[]⟩]) 4 72 Tryz.underlying25 hi hz0 hz1 hz2 rfl (by decide) (.slice vp out.length vc) out.length xs (by simp [Act.eval, Act.put]) (((owned_later (owned_later HO.out HB2.out) HB3.out).alloc _).alloc _) ⟨w3.heap.size + 1, 0, none⟩ 1 1 [.int .i64 ck, .slice p1 n1 c1, .slice p2 n2 c2, .string csrc] rfl rfl ?_ ?_ ?_ ?_ ?_ ?_; rotate_right; intro v' w4 hown' hgrow _))
                · have b23 : Later wr w3 := Later.step HB2.out HB3.out
                  have z2 := HB2.out.size
                  have z3 := HB3.out.size
                  have HO3 : ((w3.alloc (.cells #[.int .i64 ck, .slice p1 n1 c1, .slice p2 n2 c2, .string csrc] 38)).alloc (.cells #[.int .i64 ck, .slice p1 n1 c1, .slice p2 n2 c2, .string csrc] 38)).ownsRow w1.heap.size 38 4 (.slice vp out.length vc) out.length xs :=
                    ((owned_later (owned_later HO.out HB2.out) HB3.out).alloc _).alloc _
                  have HC3 : CmdCells ((w3.alloc (.cells #[.int .i64 ck, .slice p1 n1 c1, .slice p2 n2 c2, .string csrc] 38)).alloc (.cells #[.int .i64 ck, .slice p1 n1 c1, .slice p2 n2 c2, .string csrc] 38)) w1.heap.size ⟨ck, cns, cal, csrc⟩ [.int .i64 ck, .slice p1 n1 c1, .slice p2 n2 c2, .string csrc] :=
                    ⟨p1, n1, c1, p2, n2, c2, rfl, own_mono ((O1.out.alloc _).alloc _) (by omega), own_mono ((O2.out.alloc _).alloc _) (by omega)⟩
                  have HM3 : Cmds ((w3.alloc (.cells #[.int .i64 ck, .slice p1 n1 c1, .slice p2 n2 c2, .string csrc] 38)).alloc (.cells #[.int .i64 ck, .slice p1 n1 c1, .slice p2 n2 c2, .string csrc] 38)) w1.heap.size out xs :=
                    HCm.out.later (((b23.alloc (by omega) _)).alloc (by simp; omega) _)
                  have HOF : Aside (w4.ownsRow w1.heap.size 38 4 v' (out ++ [(⟨ck, cns, cal, csrc⟩ : Cmd)]).length (xs ++ [.int .i64 ck, .slice p1 n1 c1, .slice p2 n2 c2, .string csrc])) := by
                    show World.ownsRow _ _ _ _ _ _ _
                    rw [List.length_append]
                    exact hown'
                  have HCF : Aside (Cmds w4 w1.heap.size (out ++ [(⟨ck, cns, cal, csrc⟩ : Cmd)]) (xs ++ [.int .i64 ck, .slice p1 n1 c1, .slice p2 n2 c2, .string csrc])) :=
                    Cmds.snoc (HC3.grown HO3 hgrow) (HM3.grown HO3 hgrow)
                  have HLF : Aside (Later w1 w4) := by
                    refine (((HL.out.trans (b23.mono (by omega))).alloc (by omega) _).alloc (by simp; omega) _).grown hgrow (by simp; omega) (fun q hq => own_block HO.out q hq)
                  clear hown' hgrow
                  go_roundg G
                  case measure => omega
                  case rel => exact ⟨k + 1, _, _, by omega, by omega, by go_num, by simp; omega, HLF.out, HP2.out, HOF.out, HCF.out⟩
                · exact ⟨rfl, rfl, rfl, rfl⟩
                · unfold maxLen; omega
                · omega
                · have := HB2.out.size; have := HB3.out.size; omega
      · have hkz : k = n := by omega
        subst hkz
        have hfin : Aside (parseR s = (out, 0, 0)) := by
          show _ = _
          rw [HP.out]
          cases gk with
          | zero => rfl
          | succ g =>
            have : ls[k]? = none := by rw [List.getElem?_eq_none_iff, HN.out]; exact Nat.le_refl _
            rw [parseGo, this]
        go_wp2
        go_ret3
        refine ⟨.slice vp out.length vc, xs, ?_, HL1.out.trans (HL.out.mono (by omega)), ?_, ?_⟩
        · rw [hfin.out]; first | done | rfl
        · rw [hfin.out]; exact own_mono HO.out hz1'
        · rw [hfin.out]; exact Cmds.mono hz1' HCm.out
end Go.Proofs.YtgioobgahlcdhaaGreatDoor
end

section
/- The reference's Parse: parts. -/
namespace Go.Proofs.YtgioobgahlcdhaaGreatDoor
open Go.RowKit Go.Shelf Go.Sort Go.Lib

theorem fieldsGoD_full : ∀ (f : Nat) (cur l : List UInt8), ∀ x ∈ Lib.fieldsGoD f cur l, x ≠ []
  | 0, cur, l, x, hx => by
    unfold Lib.fieldsGoD at hx
    split at hx
    · simp at hx
    · rename_i hc
      simp at hx
      subst hx
      exact hc
  | f + 1, cur, l, x, hx => by
    unfold Lib.fieldsGoD at hx
    split at hx
    · split at hx
      · simp at hx
      · rename_i hc
        simp at hx
        subst hx
        exact hc
    · split at hx
      · rw [List.mem_append] at hx
        rcases hx with hx | hx
        · split at hx
          · simp at hx
          · rename_i hc
            simp at hx
            subst hx
            exact hc
        · exact fieldsGoD_full f _ _ x hx
      · exact fieldsGoD_full f _ _ x hx
theorem words_full (s : ByteArray) : ∀ x ∈ wordsOf s, 0 < x.size := by
  intro x hx
  simp only [wordsOf, List.mem_map] at hx
  obtain ⟨y, hy, rfl⟩ := hx
  have := fieldsGoD_full _ _ _ y hy
  rw [Lib.size_eq]
  simpa [List.length_pos_iff] using this
theorem blank_words (x : ByteArray) : blankS x = match wordsOf x with | [] => true | y :: _ => decide (y.data.toList.head? = some 59) := by
  have h := blank_rests x
  unfold blankS
  rw [← h]
  unfold Go.X.restsB wordsOf
  cases Lib.fieldsD x.data.toList with
  | nil => rfl
  | cons y r => rfl
theorem fields_any (x : ByteArray) (hx : x.size ≤ 1000000) (w0 : World) (hc0 : Calm w0) :
    Calls Tryz.prog 19 #[.string x] w0 fun e w' => ∃ A, e = .returned (.slice (some ⟨A, 0, none⟩) (wordsOf x).length (wordsOf x).length) ∧ Later w0 w' ∧ w0.heap.size ≤ A ∧
      ∀ (j : Nat) (y : ByteArray), (wordsOf x)[j]? = some y → w'.cell? ⟨A, j, none⟩ = some (.string y) := by
  have hwl : (Lib.fieldsD x.data.toList).length = (wordsOf x).length := by simp [wordsOf]
  have hwm : ((Lib.fieldsD x.data.toList).map fun x => Value.string ⟨x.toArray⟩) = (wordsOf x).map Value.string := by simp [wordsOf]
  refine (Tryz.strings_Fields_any x w0 (by omega) hc0.space hc0.white).mono ?_
  rintro e w' ⟨A, rfl, hA, hown, hbel⟩
  rw [hwl, hwm] at hown
  rw [hwl]
  refine ⟨A, rfl, hbel, hA, fun j y hj => ?_⟩
  have hjl : j < (wordsOf x).length := (List.getElem?_eq_some_iff.1 hj).1
  exact (hown.cellAt j (by omega)).trans (by rw [List.getElem?_map, hj]; first | done | rfl)
theorem line21_err (ws : List ByteArray) (w : World) (hf : Forms21 w) (A : Nat) (hcells : ∀ (j : Nat) (x : ByteArray), ws[j]? = some x → w.cell? ⟨A, j, none⟩ = some (.string x)) (hne : ws ≠ []) (hlen : ws.length ≤ 1000000) (hws : ∀ x ∈ ws, x.size ≤ 1000000 ∧ 0 < x.size) (er : Int) (h : lineR ws = .error er) :
    Calls Tryz.prog 20 #[.slice (some ⟨A, 0, none⟩) ws.length ws.length] w fun e w' => er ≠ 0 ∧ ∃ kk p1 n1 c1 p2 n2 c2 src, e = .returned (.tuple #[.agg #[.int .i64 kk, .slice p1 n1 c1, .slice p2 n2 c2, .string src], .int .i64 er]) ∧ Later w w' := by
  refine (line21_any ws w hf A hcells hne hlen hws).mono ?_
  rintro e w' ⟨kk, p1, n1, c1, p2, n2, c2, src, er', rfl, hl, ⟨y, hy, rfl, hy0⟩ | ⟨c, hc', _⟩⟩
  · rw [h] at hy
    cases hy
    exact ⟨hy0, kk, p1, n1, c1, p2, n2, c2, src, rfl, hl⟩
  · rw [h] at hc'; cases hc'
theorem line21_ok (ws : List ByteArray) (w : World) (hf : Forms21 w) (A : Nat) (hcells : ∀ (j : Nat) (x : ByteArray), ws[j]? = some x → w.cell? ⟨A, j, none⟩ = some (.string x)) (hne : ws ≠ []) (hlen : ws.length ≤ 1000000) (hws : ∀ x ∈ ws, x.size ≤ 1000000 ∧ 0 < x.size) (c : Cmd) (h : lineR ws = .ok c) :
    Calls Tryz.prog 20 #[.slice (some ⟨A, 0, none⟩) ws.length ws.length] w fun e w' => ∃ p1 n1 c1 p2 n2 c2, e = .returned (.tuple #[.agg #[.int .i64 c.k, .slice p1 n1 c1, .slice p2 n2 c2, .string c.src], .int .i64 0]) ∧ Later w w' ∧
      w'.ownsRow w.heap.size 3 1 (.slice p1 n1 c1) c.ns.length (c.ns.map (Value.int .i64)) ∧ w'.ownsRow w.heap.size 43 5 (.slice p2 n2 c2) c.al.length (argCells c.al) := by
  refine (line21_any ws w hf A hcells hne hlen hws).mono ?_
  rintro e w' ⟨kk, p1, n1, c1, p2, n2, c2, src, er', rfl, hl, ⟨y, hy, rfl, hy0⟩ | ⟨d, hd, rfl, rfl, rfl, h1, h2⟩⟩
  · rw [h] at hy; cases hy
  · rw [h] at hd
    cases hd
    exact ⟨p1, n1, c1, p2, n2, c2, rfl, hl, h1, h2⟩

theorem dot_eq (y : ByteArray) : (y.toList == [46]) = decide (y = ⟨#[46]⟩) := by
  have := toList_eq y ⟨#[46]⟩
  rw [← this, Lib.toList_data ⟨#[46]⟩]
theorem dotN_len (ls : List ByteArray) : dotN ls ≤ ls.length := (List.takeWhile_sublist _).length_le
theorem dot_index : ∀ (ls : List ByteArray) (i : Nat), Lib.idxFromS ls ⟨#[46]⟩ i = if dotN ls = ls.length then -1 else ((i + dotN ls : Nat) : Int)
  | [], i => rfl
  | y :: r, i => by
    have ih := dot_index r (i + 1)
    unfold Lib.idxFromS dotN
    by_cases h : y = ⟨#[46]⟩
    · rw [if_pos h, List.takeWhile_cons_of_neg (by rw [dot_eq]; simp [h])]
      simp
    · rw [if_neg h, List.takeWhile_cons_of_pos (by rw [dot_eq]; simp [h]), ih]
      unfold dotN
      simp only [List.length_cons]
      by_cases h2 : (r.takeWhile fun x => !(x.toList == [46])).length = r.length
      · rw [if_pos h2, if_pos (by omega)]
      · rw [if_neg h2, if_neg (by omega)]
        congr 1
        omega
/-- slices.Index of a point, in the lines behind one. -/
theorem point_any (b off c : Nat) (ls : List ByteArray) (w : World) (hl : ls.length ≤ 1000000) (hc : ∀ (j : Nat) (y : ByteArray), ls[j]? = some y → w.cell? ⟨b, off + j, none⟩ = some (.string y)) (a : Option Addr) (ha : 0 < ls.length → a = some ⟨b, off, none⟩) :
    Calls Tryz.prog 21 #[.slice a ls.length c, .string ⟨#[46]⟩] w fun e w' => e = .returned (.int .i64 (if dotN ls = ls.length then -1 else ((dotN ls : Nat) : Int))) ∧ w' = w := by
  have hi : Lib.idxOfS ls ⟨#[46]⟩ = if dotN ls = ls.length then -1 else ((dotN ls : Nat) : Int) := by
    unfold Lib.idxOfS
    rw [dot_index, Nat.zero_add]
  cases ls with
  | nil =>
    have h := Tryz.slices_Index_string_empty a c ⟨#[46]⟩ w
    rw [hi] at h
    exact h
  | cons y r =>
    have h := Tryz.slices_Index_string b off (y :: r).length c (y :: r) ⟨#[46]⟩ w (Nat.le_refl _) (by omega) (fun j hj => by
      rw [List.getD_eq_getElem?_getD, List.getElem?_eq_getElem hj]
      exact hc j _ (List.getElem?_eq_getElem hj))
    rw [List.take_length, hi] at h
    rw [ha (by simp)]
    exact h
end Go.Proofs.YtgioobgahlcdhaaGreatDoor
end
