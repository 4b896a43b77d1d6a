/- Parts of the proof: Wr, Ws, Wt, Wu, Wv. -/
import Derived.Shelf.Strings.PiecesUse
import Derived.Test.YtlkhkalniekaoaaGreatDoorQax

set_option linter.unusedVariables false
set_option linter.unusedSimpArgs false

section
/- paling/script.Parse. -/
namespace Go.Proofs.YtlkhkalniekaoaaGreatDoor
open Go.RowKit Go.Shelf Go.Sort Go.Lib

theorem cmdInfo : (Tryz.prog.info? 35).map (fun i => (i.zero, i.size, i.bytes)) = some (some (.agg #[.int .i64 0, .slice none 0 0, .slice none 0 0, .string ⟨#[]⟩]), 4, 72) := by kernel_rfl
/-- What strings.TrimSpace leaves, as a string. -/
theorem trim_any (x : ByteArray) (hx : x.size ≤ 1000000) (w : World) (hc : Calm w) :
    Calls Tryz.prog 21 #[.string x] w fun e w' => e = .returned (.string ⟨(Lib.trimSpaceD x.data.toList).toArray⟩) ∧ Later w w' :=
  Tryz.strings_TrimSpace_any x w (by omega) hc.space hc.utf hc.white

theorem parseGo_step (ls : List ByteArray) (g i : Nat) (out : List Cmd) (x : ByteArray) (hx : ls[i]? = some x) : parseGo ls (g + 1) i out =
    if blankS x = true then parseGo ls g (i + 1) out
    else if out.length = 200 then ([], i + 1, 2)
    else match lineR (wordsOf x) with
      | .error e => ([], i + 1, e)
      | .ok c =>
        if c.k = 1 then
          if ls.length ≤ i + 1 + dotN (ls.drop (i + 1)) then ([], i + 1, 1)
          else parseGo ls g (i + 1 + dotN (ls.drop (i + 1)) + 1) (out ++ [{ c with src := joinS ((ls.drop (i + 1)).take (dotN (ls.drop (i + 1)))) }])
        else parseGo ls g (i + 1) (out ++ [c]) := by
  rw [parseGo, hx]
  first | done | rfl
theorem Cmds.mono {w : World} {B B' : Nat} (hB : B' ≤ B) : ∀ {l : List Cmd} {xs : List Value}, Cmds w B l xs → Cmds w B' l xs
  | [], _, h => h
  | _ :: _, _, ⟨a, t, hx, ⟨p1, n1, c1, p2, n2, c2, he, h1, h2⟩, ht⟩ => ⟨a, t, hx, ⟨p1, n1, c1, p2, n2, c2, he, own_mono h1 hB, own_mono h2 hB⟩, Cmds.mono hB ht⟩
theorem splitK_sub (sep : List UInt8) (save : Nat) : ∀ (k : Nat) (s p : List UInt8), p ∈ Lib.splitK sep save k s → p.Sublist s
  | 0, s, p, h => by
    simp [Lib.splitK] at h
    subst h
    exact List.Sublist.refl _
  | k + 1, s, p, h => by
    unfold Lib.splitK at h
    split at h
    · simp at h
      subst h
      exact List.Sublist.refl _
    · rcases List.mem_cons.1 h with rfl | h
      · exact List.take_sublist _ _
      · exact (splitK_sub sep save k _ p h).trans (List.drop_sublist _ _)
theorem lines_size (s : ByteArray) : ∀ x ∈ linesOf s, x.size ≤ s.size := by
  intro x hx
  have h := splitK_sub [10] 0 _ s.data.toList x.data.toList (by
    have hd := Lib.splitB_data ⟨#[10]⟩ 0 (Lib.countB s ⟨#[10]⟩) s
    rw [← hd]
    exact List.mem_map_of_mem hx)
  rw [Lib.size_eq, Lib.size_eq]
  exact h.length_le
theorem dotN_go {ls : List ByteArray} {j : Nat} {y : ByteArray} (hy : ls[j]? = some y) (h : (y.toList == [46]) = false) : dotN (ls.drop j) = dotN (ls.drop (j + 1)) + 1 := by
  rw [Lib.drop_at hy]
  unfold dotN
  rw [List.takeWhile_cons_of_pos (by simp only [h]; first | done | rfl)]
  first | done | rfl
theorem dotN_stop {ls : List ByteArray} {j : Nat} {y : ByteArray} (hy : ls[j]? = some y) (h : (y.toList == [46]) = true) : dotN (ls.drop j) = 0 := by
  rw [Lib.drop_at hy]
  unfold dotN
  rw [List.takeWhile_cons_of_neg (by simp only [h]; decide)]
  first | done | rfl
theorem lens_small : ∀ (xs : List ByteArray), (∀ x ∈ xs, x.size ≤ 65536) → Lib.lens (xs.map (·.data.toList)) ≤ xs.length * 65536
  | [], _ => by simp [Lib.lens]
  | x :: r, h => by
    have h1 := lens_small r (fun y hy => h y (by simp [hy]))
    have h2 := h x (by simp)
    rw [Lib.size_eq] at h2
    unfold Lib.lens at h1 ⊢
    rw [List.map_cons, List.map_cons, List.sum_cons, List.length_cons]
    omega
theorem join_small (xs : List ByteArray) (h : ∀ x ∈ xs, x.size ≤ 65536) (hl : xs.length ≤ 65537) : (Lib.join (xs.map (·.data.toList)) [10]).length ≤ 140737488355328 := by
  cases xs with
  | nil => simp [Lib.join]
  | cons x r =>
    have := lens_small (x :: r) h
    rw [List.map_cons, Lib.join_length]
    rw [List.map_cons] at this
    simp only [List.length_map, List.length_cons, List.length_nil] at this hl ⊢
    omega
theorem line_err (x : ByteArray) (hs : x.size ≤ 1000000) (w : World) (hc : Calm w) (hf : w.rangeAt 2 0 formCells.toList) (hne : wordsOf x ≠ []) (hlen : (wordsOf x).length ≤ 1000000) (hws : ∀ y ∈ wordsOf x, y.size ≤ 1000000) (er : Int) (h : lineR (wordsOf x) = .error er) :
    Calls Tryz.prog 22 #[.string x] w fun e w' => er ≠ 0 ∧ ∃ kk p1 n1 c1 p2 n2 c2 src, e = .returned (.tuple #[.agg #[.int .i64 kk, .slice p1 n1 c1, .slice p2 n2 c2, .string src], .int .i64 er]) ∧ Later w w' := by
  refine (line_any x hs w hc hf hne hlen hws).mono ?_
  rintro e w' ⟨kk, p1, n1, c1, p2, n2, c2, src, er', rfl, hl, ⟨y, hy, rfl, hy0⟩ | ⟨c, hc', _⟩⟩
  · rw [h] at hy
    cases hy
    exact ⟨hy0, kk, p1, n1, c1, p2, n2, c2, src, rfl, hl⟩
  · rw [h] at hc'; cases hc'
theorem line_ok (x : ByteArray) (hs : x.size ≤ 1000000) (w : World) (hc : Calm w) (hf : w.rangeAt 2 0 formCells.toList) (hne : wordsOf x ≠ []) (hlen : (wordsOf x).length ≤ 1000000) (hws : ∀ y ∈ wordsOf x, y.size ≤ 1000000) (c : Cmd) (h : lineR (wordsOf x) = .ok c) :
    Calls Tryz.prog 22 #[.string x] w fun e w' => ∃ p1 n1 c1 p2 n2 c2, e = .returned (.tuple #[.agg #[.int .i64 c.k, .slice p1 n1 c1, .slice p2 n2 c2, .string c.src], .int .i64 0]) ∧ Later w w' ∧
      w'.ownsRow w.heap.size 3 1 (.slice p1 n1 c1) c.ns.length (c.ns.map (Value.int .i64)) ∧ w'.ownsRow w.heap.size 49 5 (.slice p2 n2 c2) c.al.length (argCells c.al) := by
  refine (line_any x hs w hc hf hne hlen hws).mono ?_
  rintro e w' ⟨kk, p1, n1, c1, p2, n2, c2, src, er', rfl, hl, ⟨y, hy, rfl, hy0⟩ | ⟨d, hd, rfl, rfl, rfl, h1, h2⟩⟩
  · rw [h] at hy; cases hy
  · rw [h] at hd
    cases hd
    exact ⟨p1, n1, c1, p2, n2, c2, rfl, hl, h1, h2⟩
def ParsePost (s : ByteArray) (w : World) (e : Ending) (w' : World) : Prop :=
  ∃ v xs, e = .returned (.tuple #[v, .int .i64 (parseR s).2.1, .int .i64 (parseR s).2.2]) ∧ Later w w' ∧ w'.ownsRow w.heap.size 35 4 v (parseR s).1.length xs ∧ Cmds w' w.heap.size (parseR s).1 xs

set_option maxHeartbeats 4000000 in
set_option maxRecDepth 1000000 in
theorem parse_any (s : ByteArray) (w : World) (hc : Calm w) (hf : w.rangeAt 2 0 formCells.toList) (hs0 : s.size ≤ 1000000) :
    Calls Tryz.prog 8 #[.string s] w (ParsePost s w) := by
  have HF : Aside (w.rangeAt 2 0 formCells.toList) := hf
  clear hf
  obtain ⟨i0, hi, hz0, hz1, hz2⟩ := info_parts cmdInfo
  by_cases hbig : 65536 < s.size
  · have hR : Aside (parseR s = ([], 0, 2)) := by show _ = _; unfold parseR; rw [if_pos hbig]
    go_enter Tryz.func8, Tryz.ntmps8
    go_wp2
    go_ret3
    refine ⟨.slice none 0 0, [], ?_, Below.refl _ _, ?_, ?_⟩
    · rw [hR.out]; first | done | rfl
    · rw [hR.out]; exact World.ownsRow_nil _ _ _ _
    · rw [hR.out]; first | done | rfl
  · have hR : Aside (parseR s = parseGo (linesOf s) (linesOf s).length 0 []) := by show _ = _; unfold parseR; rw [if_neg hbig]
    obtain ⟨m, hm⟩ := hc.most
    have hlen : (linesOf s).length = Lib.countB s ⟨#[10]⟩ + 1 := Lib.splitB_all ⟨#[10]⟩ (by decide) 0 _ s rfl
    have hcnt : Lib.countB s ⟨#[10]⟩ ≤ s.size := Lib.countB_le ⟨#[10]⟩ (by decide) s.size s (Nat.le_refl _)
    have hsub : ∀ x ∈ linesOf s, x.size ≤ s.size := lines_size s
    have cS : Calls Tryz.prog 20 #[.string s, .string ⟨#[10]⟩] w fun e w' => e = .returned (.slice (some ⟨w.heap.size, 0, none⟩) (linesOf s).length (linesOf s).length) ∧ Later w w' ∧
        ∀ (j : Nat) (x : ByteArray), (linesOf s)[j]? = some x → w'.cell? ⟨w.heap.size, j, none⟩ = some (.string x) := by
      refine (Tryz.strings_Split s ⟨#[10]⟩ m w (by omega) hm (by decide)).mono ?_
      rintro e w' ⟨rfl, rfl⟩
      rw [hlen]
      refine ⟨rfl, (Below.refl _ w).alloc (Nat.le_refl _) _, fun j x hj => ?_⟩
      have := Lib.pieces_cell_at w (linesOf s) 9 j x hj
      exact this
    obtain ⟨ls, hls⟩ : ∃ ls, linesOf s = ls := ⟨_, rfl⟩
    rw [hls] at hlen hsub cS hR
    clear hls
    obtain ⟨n, hn⟩ : ∃ n, ls.length = n := ⟨_, rfl⟩
    rw [hn] at hlen cS hR
    have HN : Aside (ls.length = n) := hn
    have hn6 : n ≤ 65537 := by omega
    clear hn hlen
    have HSB : Aside (∀ x ∈ ls, x.size ≤ 65536) := fun x hx => Nat.le_trans (hsub x hx) (by omega)
    clear hsub
    go_enter Tryz.func8, Tryz.ntmps8
    go_wp2_with (go_at_call 20; refine cS.mono ?_; rintro e w1 ⟨rfl, hb, hcells⟩; have HL1 : Aside (Later w w1) := hb; clear hb; have HC : Aside (∀ (j : Nat) (x : ByteArray), ls[j]? = some x → w1.cell? ⟨w.heap.size, j, none⟩ = some (.string x)) := hcells; clear hcells)
    clear cS
    go_loopg [5, 7] n (fun g v i wr => ∃ (k : Nat) (out : List Cmd) (xs : List Value), n ≤ k + g ∧ k ≤ n ∧ i = .int .i64 k ∧ out.length ≤ 200 ∧ Aside (Later w1 wr) ∧ Aside (parseR s = parseGo ls g k out) ∧
      Aside (wr.ownsRow w1.heap.size 35 4 v out.length xs) ∧ Aside (Cmds wr w1.heap.size out xs))
    case atStart => exact ⟨0, [], [], by omega, by omega, rfl, by simp, Below.refl _ _, hR.out, World.ownsRow_nil _ _ _ _, rfl⟩
    case round =>
      obtain ⟨k, out, xs, hk, hkn, rfl, ho2, HL, HP, HO, HCm⟩ := hrel
      have hz1' := HL1.out.size
      have hz2' := HL.out.size
      obtain ⟨vp, vc, rfl⟩ := own_len HO.out
      by_cases hlt : k < n
      · obtain ⟨x, hx⟩ : ∃ x, ls[k]? = some x := ⟨_, List.getElem?_eq_getElem (by have := HN.out; omega)⟩
        have HX : Aside (ls[k]? = some x) := hx
        have hxs : x.size ≤ 65536 := HSB.out x (List.mem_of_getElem? hx)
        have hxc : wr.cell? ⟨w.heap.size, k, none⟩ = some (.string x) := HL.out.cellOf (HC.out k x hx)
        have HLw : Aside (Later w wr) := HL1.out.trans (HL.out.mono (by omega))
        clear hx
        obtain ⟨tb, htb⟩ : ∃ tb : ByteArray, (⟨(Lib.trimSpaceD x.data.toList).toArray⟩ : ByteArray) = tb := ⟨_, rfl⟩
        have htd : tb.data.toList = Lib.trimSpaceD x.data.toList := by rw [← htb]
        have cT := trim_any x (by omega) wr (hc.later HLw.out)
        rw [htb] at cT
        obtain ⟨G, hG⟩ : ∃ g, gk = g + 1 := ⟨gk - 1, by omega⟩
        subst hG
        have HST : Aside _ := parseGo_step ls G k out x HX.out
        clear htb
        by_cases hbl : blankS x = true
        · have HP2 : Aside (parseR s = parseGo ls G (k + 1) out) := by
            show _ = _
            rw [HP.out, HST.out]
            simp only [hbl, if_true]
          by_cases hem : tb.data.toList = []
          · have he : tb.toList.isEmpty = true := by rw [Lib.toList_data, hem]; first | done | rfl
            clear hem htd hbl
            go_wp2_with (go_at_call 21; refine cT.mono ?_; rintro e w2 ⟨rfl, hb⟩; have HB2 : Aside (Later wr w2) := hb; clear hb)
            go_roundg G
            case measure => omega
            case rel => exact ⟨k + 1, out, xs, by omega, by omega, by go_num, ho2, Later.step HL.out HB2.out, HP2.out, owned_later HO.out HB2.out, HCm.out.later HB2.out⟩
          · have he : tb.toList.isEmpty = false := by
              rw [Lib.toList_data]
              cases h : tb.data.toList with
              | nil => exact absurd h hem
              | cons _ _ => rfl
            have hsz : 0 < tb.size := by rw [Lib.size_eq]; exact List.length_pos_iff.2 hem
            have h59 : ((tb[0]'hsz).toNat : Int) = 59 := by
              have h := hbl
              unfold blankS at h
              rw [← htd] at h
              have h' : tb.data.toList.head? = some 59 := by
                cases ht : tb.data.toList with
                | nil => exact absurd ht hem
                | cons a r => rw [ht] at h; simpa using h
              exact (head_is tb hsz 59).1 h'
            clear hem htd hbl
            go_wp2_with (go_at_call 21; refine cT.mono ?_; rintro e w2 ⟨rfl, hb⟩; have HB2 : Aside (Later wr w2) := hb; clear hb)
            all_goals go_roundg G
            all_goals first
              | omega
              | exact ⟨k + 1, out, xs, by omega, by omega, by go_num, ho2, Later.step HL.out HB2.out, HP2.out, owned_later HO.out HB2.out, HCm.out.later HB2.out⟩
        · have hem : tb.data.toList ≠ [] := by
            intro hh
            apply hbl
            unfold blankS
            rw [← htd, hh]
            first | done | rfl
          have he : tb.toList.isEmpty = false := by
            rw [Lib.toList_data]
            cases h : tb.data.toList with
            | nil => exact absurd h hem
            | cons _ _ => rfl
          have hsz : 0 < tb.size := by rw [Lib.size_eq]; exact List.length_pos_iff.2 hem
          have h59 : ((tb[0]'hsz).toNat : Int) ≠ 59 := by
            intro hh
            apply hbl
            unfold blankS
            rw [← htd, (head_is tb hsz 59).2 hh]
            simp
          have hwn : wordsOf x ≠ [] := line_words x (by rw [← htd]; exact hem)
          have hwl : (wordsOf x).length ≤ 1000000 := by have := words_count x; omega
          have hws : ∀ y ∈ wordsOf x, y.size ≤ 1000000 := fun y hy => by have := words_size x y hy; omega
          have HWN : Aside _ := hwn
          have HWS : Aside _ := hws
          have HWL : Aside _ := hwl
          have HBL : Aside (¬ blankS x = true) := hbl
          clear hwn hwl hws hbl hem htd
          by_cases h200 : out.length = 200
          · have HP2 : Aside (parseR s = ([], (k : Int) + 1, 2)) := by
              show _ = _
              rw [HP.out, HST.out, if_neg HBL.out, if_pos h200]
            have h200' : ((out.length : Nat) : Int) = 200 := by omega
            clear h200
            go_wp2_with (go_at_call 21; refine cT.mono ?_; rintro e w2 ⟨rfl, hb⟩; have HB2 : Aside (Later wr w2) := hb; clear hb)
            go_ret3
            refine ⟨.slice none 0 0, [], ?_, HLw.out.trans (HB2.out.mono (by omega)), ?_, ?_⟩
            · rw [HP2.out]; first | done | rfl
            · rw [HP2.out]; exact World.ownsRow_nil _ _ _ _
            · rw [HP2.out]; first | done | rfl
          · have h200' : ¬ ((out.length : Nat) : Int) = 200 := by omega
            have HFr : ∀ w2, Later wr w2 → w2.rangeAt 2 0 formCells.toList := fun w2 hb => range_later HF.out (HLw.out.trans (hb.mono (by omega)))
            have HCa : ∀ w2, Later wr w2 → Calm w2 := fun w2 hb => hc.later (HLw.out.trans (hb.mono (by omega)))
            have hL0 : w.heap.size ≤ wr.heap.size := by omega
            cases hlr : lineR (wordsOf x) with
            | error er =>
              have HLR : Aside (lineR (wordsOf x) = .error er) := hlr
              clear hlr
              have HP2 : Aside (parseR s = ([], (k : Int) + 1, er)) := by
                show _ = _
                rw [HP.out, HST.out, if_neg HBL.out, if_neg h200, HLR.out]
              clear h200
              have A1 : Aside _ := HFr
              have A2 : Aside _ := HCa
              clear HFr HCa
              go_wp2_with (first
                | (go_at_call 21; refine cT.mono ?_; rintro e w2 ⟨rfl, hb⟩; have HB2 : Aside (Later wr w2) := hb; clear hb; have hxc2 : w2.cell? ⟨w.heap.size, k, none⟩ = some (.string x) := HB2.out.cellOf hxc)
                | (go_at_call 22; refine (line_err x (by omega) _ (A2.out _ HB2.out) (A1.out _ HB2.out) HWN.out HWL.out HWS.out er HLR.out).mono ?_; rintro e w3 ⟨her0, kk, p1, n1, c1, p2, n2, c2, src, rfl, hb⟩; have HB3 : Aside (Later w2 w3) := hb; clear hb))
              go_ret3
              refine ⟨.slice none 0 0, [], ?_, ((HLw.out.trans (HB2.out.mono hL0)).trans (HB3.out.mono (by have := HB2.out.size; omega))).alloc (by have := HB2.out.size; have := HB3.out.size; omega) _, ?_, ?_⟩
              · rw [HP2.out]; first | done | rfl
              · rw [HP2.out]; exact World.ownsRow_nil _ _ _ _
              · rw [HP2.out]; first | done | rfl
            | ok c =>
              have HLR : Aside (lineR (wordsOf x) = .ok c) := hlr
              clear hlr
              have A1 : Aside _ := HFr
              have A2 : Aside _ := HCa
              clear HFr HCa
              by_cases hk1 : c.k = 1
              · rcases c with ⟨ck, cns, cal, csrc⟩
                simp only at hk1
                subst hk1
                obtain ⟨W1, rfl⟩ : ∃ W, W = wr := ⟨_, rfl⟩
                have HST2 : Aside (parseR s = if n ≤ k + 1 + dotN (ls.drop (k + 1)) then ([], (k : Int) + 1, 1)
                    else parseGo ls G (k + 1 + dotN (ls.drop (k + 1)) + 1) (out ++ [(⟨1, cns, cal, joinS ((ls.drop (k + 1)).take (dotN (ls.drop (k + 1))))⟩ : Cmd)])) := by
                  show _ = _
                  rw [HP.out, HST.out, if_neg HBL.out, if_neg h200, HLR.out]
                  simp only [if_true]
                  rw [HN.out]
                clear h200
                go_wp2_with (first
                  | (go_at_call 21; refine cT.mono ?_; rintro e w2 ⟨rfl, hb⟩; have HB2 : Aside (Later W1 w2) := hb; clear hb; have hxc2 : w2.cell? ⟨w.heap.size, k, none⟩ = some (.string x) := HB2.out.cellOf hxc)
                  | (go_at_call 22; refine (line_ok x (by omega) _ (A2.out _ HB2.out) (A1.out _ HB2.out) HWN.out HWL.out HWS.out _ HLR.out).mono ?_; rintro e w3 ⟨p1, n1, c1, p2, n2, c2, rfl, hb, ho1', ho2'⟩; have HB3 : Aside (Later w2 w3) := hb; clear hb; have O1 : Aside (World.ownsRow _ _ _ _ _ _ _) := ho1'; have O2 : Aside (World.ownsRow _ _ _ _ _ _ _) := ho2'; clear ho1' ho2'; simp only []))
                have b23 : Later W1 w3 := Later.step HB2.out HB3.out
                have B23 : Aside (Later W1 w3) := b23
                have z2 := HB2.out.size
                have z3 := HB3.out.size
                have HC3 : Aside (∀ (o : Obj) (q : Nat) (y : ByteArray), ls[q]? = some y → (w3.alloc o).cell? ⟨w.heap.size, q, none⟩ = some (.string y)) := fun o q y hy =>
                  (World.cell?_alloc_past _ _ _ (cell_lt (b23.cellOf (HL.out.cellOf (HC.out q y hy))))).trans (b23.cellOf (HL.out.cellOf (HC.out q y hy)))
                clear b23 hxc hxc2
                go_loopg [7] (n - (k + 1)) (fun g i wx => ∃ j : Nat, j + g = n ∧ k + 1 ≤ j ∧ i = .int .i64 j ∧ wx = w3.alloc (.cells #[.int .i64 1, .slice p1 n1 c1, .slice p2 n2 c2, .string csrc] 35) ∧ Aside (k + 1 + dotN (ls.drop (k + 1)) = j + dotN (ls.drop j)))
                case atStart => exact ⟨k + 1, by omega, by omega, by go_num, rfl, rfl⟩
                case round =>
                  obtain ⟨j, hjn, hkj, rfl, rfl, HD⟩ := hrel
                  by_cases hj : j < n
                  · obtain ⟨y, hy⟩ : ∃ y, ls[j]? = some y := ⟨_, List.getElem?_eq_getElem (by have := HN.out; omega)⟩
                    have HY : Aside (ls[j]? = some y) := hy
                    have hyc := HC3.out (.cells #[.int .i64 1, .slice p1 n1 c1, .slice p2 n2 c2, .string csrc] 35) j y hy
                    clear hy
                    cases hdot : (y.toList == [46]) with
                    | false =>
                      have HD2 : Aside (dotN (ls.drop j) = dotN (ls.drop (j + 1)) + 1) := dotN_go HY.out hdot
                      go_wp2
                      go_roundg (gk - 1)
                      case measure => omega
                      case rel => exact ⟨j + 1, by omega, by omega, by go_num, rfl, by have := HD.out; have := HD2.out; show _ = _; omega⟩
                    | true =>
                      have HD2 : Aside (dotN (ls.drop j) = 0) := dotN_stop HY.out hdot
                      have hd1 : k + 1 + dotN (ls.drop (k + 1)) = j := by have := HD.out; have := HD2.out; omega
                      have hd2 : dotN (ls.drop (k + 1)) = j - (k + 1) := by omega
                      obtain ⟨J, hJ⟩ : ∃ J, joinS ((ls.drop (k + 1)).take (j - (k + 1))) = J := ⟨_, rfl⟩
                      have HP2 : Aside (parseR s = parseGo ls G (j + 1) (out ++ [(⟨1, cns, cal, J⟩ : Cmd)])) := by
                        show _ = _
                        rw [HST2.out, if_neg (by omega), hd1, hd2, hJ]
                      have JC : Calls Tryz.prog 6 #[.slice (some ⟨w.heap.size, k + 1, none⟩) (j - (k + 1)) (n - (k + 1)), .string ⟨#[10]⟩] (w3.alloc (.cells #[.int .i64 1, .slice p1 n1 c1, .slice p2 n2 c2, .string csrc] 35)) fun e w' => e = .returned (.string J) ∧ Later (w3.alloc (.cells #[.int .i64 1, .slice p1 n1 c1, .slice p2 n2 c2, .string csrc] 35)) w' := by
                        have hxl : ((ls.drop (k + 1)).take (j - (k + 1))).length = j - (k + 1) := by rw [List.length_take, List.length_drop, HN.out]; omega
                        have h := Tryz.strings_Join w.heap.size (k + 1) (n - (k + 1)) ((ls.drop (k + 1)).take (j - (k + 1))) ⟨#[10]⟩ (w3.alloc (.cells #[.int .i64 1, .slice p1 n1 c1, .slice p2 n2 c2, .string csrc] 35))
                          (fun q y hy => by
                            rw [List.getElem?_take] at hy
                            split at hy
                            · rw [List.getElem?_drop] at hy
                              exact HC3.out _ _ y hy
                            · cases hy)
                          (cell_lt hyc) (by rw [hxl]; omega) (by rw [hxl]; omega)
                          (join_small _ (fun y hy => HSB.out y (List.mem_of_mem_drop (List.mem_of_mem_take hy))) (by rw [hxl]; omega))
                        rw [hxl] at h
                        refine h.mono ?_
                        rintro e w' ⟨rfl, hb⟩
                        rw [← hJ]
                        exact ⟨rfl, hb⟩
                      have HJC : Aside _ := JC
                      clear JC hd1 hd2 hJ
                      go_wp2_with (first
                        | (go_at_call 6; go_must (refine Calls.mono HJC.out ?_; rintro e w5 ⟨rfl, hb⟩; have HB5 : Aside (Later (w3.alloc (.cells #[.int .i64 1, .slice p1 n1 c1, .slice p2 n2 c2, .string csrc] 35)) w5) := hb; have f5 := (Four.new w3 _ _ _ _ _).later hb (by simp); obtain ⟨⟨g0, g1, g2, g3⟩, k0, k1, k2, k3⟩ := id f5; clear hb f5))
                        | (at_builtin; refine wpList_append_own _ rfl (.tmp 85) (.tmp 87) 24 rfl w1.heap.size 35 i0 (.agg #[.int .i64 0, .slice none 0 0, .slice none 0 0, .string ⟨#[]⟩]) 4 72 Tryz.underlying24 hi hz0 hz1 hz2 rfl (by decide) (.slice vp out.length vc) out.length xs (by simp [Act.eval, Act.put]) ((owned_later (owned_later HO.out B23.out) ((((Below.refl _ w3).alloc (Nat.le_refl _) _).trans (HB5.out.mono (by simp))).setCell (p := ⟨w3.heap.size, 3, none⟩) (Nat.le_refl _) (.string J))).alloc _) ⟨w5.heap.size, 0, none⟩ 1 1 [.int .i64 1, .slice p1 n1 c1, .slice p2 n2 c2, .string J] rfl rfl ?_ ?_ ?_ ?_ ?_ ?_; rotate_right; intro v' w4 hown' hgrow _))
                      · have b36 : Later w3 (w5.setCell ⟨w3.heap.size, 3, none⟩ (.string J)) := (((Below.refl _ w3).alloc (Nat.le_refl _) _).trans (HB5.out.mono (by simp))).setCell (p := ⟨w3.heap.size, 3, none⟩) (Nat.le_refl _) (.string J)
                        have b37 : Later w3 ((w5.setCell ⟨w3.heap.size, 3, none⟩ (.string J)).alloc (.cells #[.int .i64 1, .slice p1 n1 c1, .slice p2 n2 c2, .string J] 35)) := b36.alloc b36.size _
                        have b27 : Later W1 ((w5.setCell ⟨w3.heap.size, 3, none⟩ (.string J)).alloc (.cells #[.int .i64 1, .slice p1 n1 c1, .slice p2 n2 c2, .string J] 35)) := Later.step B23.out b37
                        have HO3 : ((w5.setCell ⟨w3.heap.size, 3, none⟩ (.string J)).alloc (.cells #[.int .i64 1, .slice p1 n1 c1, .slice p2 n2 c2, .string J] 35)).ownsRow w1.heap.size 35 4 (.slice vp out.length vc) out.length xs := owned_later HO.out b27
                        have HC3' : CmdCells ((w5.setCell ⟨w3.heap.size, 3, none⟩ (.string J)).alloc (.cells #[.int .i64 1, .slice p1 n1 c1, .slice p2 n2 c2, .string J] 35)) w1.heap.size ⟨1, cns, cal, J⟩ [.int .i64 1, .slice p1 n1 c1, .slice p2 n2 c2, .string J] :=
                          ⟨p1, n1, c1, p2, n2, c2, rfl, own_mono (owned_later O1.out b37) (by omega), own_mono (owned_later O2.out b37) (by omega)⟩
                        have HM3 : Cmds ((w5.setCell ⟨w3.heap.size, 3, none⟩ (.string J)).alloc (.cells #[.int .i64 1, .slice p1 n1 c1, .slice p2 n2 c2, .string J] 35)) w1.heap.size out xs := HCm.out.later b27
                        have HOF : Aside (w4.ownsRow w1.heap.size 35 4 v' (out ++ [(⟨1, cns, cal, J⟩ : Cmd)]).length (xs ++ [.int .i64 1, .slice p1 n1 c1, .slice p2 n2 c2, .string J])) := by
                          show World.ownsRow _ _ _ _ _ _ _
                          rw [List.length_append]
                          exact hown'
                        have HCF : Aside (Cmds w4 w1.heap.size (out ++ [(⟨1, cns, cal, J⟩ : Cmd)]) (xs ++ [.int .i64 1, .slice p1 n1 c1, .slice p2 n2 c2, .string J])) :=
                          Cmds.snoc (HC3'.grown HO3 hgrow) (HM3.grown HO3 hgrow)
                        have HLF : Aside (Later w1 w4) :=
                          (HL.out.trans (b27.mono (by omega))).grown hgrow (Nat.le_trans (by omega) b27.size) (fun q hq => own_block HO.out q hq)
                        clear hown' hgrow
                        go_wp2
                        go_roundg G
                        case measure => omega
                        case rel => exact ⟨j + 1, _, _, by omega, by omega, by go_num, by simp; omega, HLF.out, HP2.out, HOF.out, HCF.out⟩
                      all_goals first
                        | exact ⟨rfl, rfl, rfl, rfl⟩
                        | (unfold maxLen; omega)
                        | omega
                        | (have := HB5.out.size; simp at this ⊢; omega)
                        | exact fun q u hq => cells4_at (by simp [World.setCell]) _ _ _ _ _ q u hq
                        | (intro u hu; simp only [List.mem_cons, List.not_mem_nil, or_false] at hu; rcases hu with rfl | rfl | rfl | rfl <;> rfl)
                  · have hjz : j = n := by omega
                    subst hjz
                    have HP2 : Aside (parseR s = ([], (k : Int) + 1, 1)) := by
                      show _ = _
                      rw [HST2.out, if_pos (by have := HD.out; omega)]
                    go_wp2
                    go_ret3
                    refine ⟨.slice none 0 0, [], ?_, (HLw.out.trans (B23.out.mono hL0)).alloc (by omega) _, ?_, ?_⟩
                    · rw [HP2.out]; first | done | rfl
                    · rw [HP2.out]; exact World.ownsRow_nil _ _ _ _
                    · rw [HP2.out]; first | done | rfl
              · have HP2 : Aside (parseR s = parseGo ls G (k + 1) (out ++ [c])) := by
                  show _ = _
                  rw [HP.out, HST.out, if_neg HBL.out, if_neg h200, HLR.out]
                  simp only [hk1, if_false]
                clear h200
                rcases c with ⟨ck, cns, cal, csrc⟩
                simp only at hk1
                go_wp2_with (first
                  | (go_at_call 21; refine cT.mono ?_; rintro e w2 ⟨rfl, hb⟩; have HB2 : Aside (Later wr w2) := hb; clear hb; have hxc2 : w2.cell? ⟨w.heap.size, k, none⟩ = some (.string x) := HB2.out.cellOf hxc)
                  | (go_at_call 22; refine (line_ok x (by omega) _ (A2.out _ HB2.out) (A1.out _ HB2.out) HWN.out HWL.out HWS.out _ HLR.out).mono ?_; rintro e w3 ⟨p1, n1, c1, p2, n2, c2, rfl, hb, ho1', ho2'⟩; have HB3 : Aside (Later w2 w3) := hb; clear hb; have O1 : Aside (World.ownsRow _ _ _ _ _ _ _) := ho1'; have O2 : Aside (World.ownsRow _ _ _ _ _ _ _) := ho2'; clear ho1' ho2'; simp only [])
                  | (at_builtin; refine wpList_append_own _ rfl (.tmp 85) (.tmp 87) 24 rfl w1.heap.size 35 i0 (.agg #[.int .i64 0, .slice none 0 0, .slice none 0 0, .string ⟨#[]⟩]) 4 72 Tryz.underlying24 hi hz0 hz1 hz2 rfl (by decide) (.slice vp out.length vc) out.length xs (by simp [Act.eval, Act.put]) (((owned_later (owned_later HO.out HB2.out) HB3.out).alloc _).alloc _) ⟨w3.heap.size + 1, 0, none⟩ 1 1 [.int .i64 ck, .slice p1 n1 c1, .slice p2 n2 c2, .string csrc] rfl rfl ?_ ?_ ?_ ?_ ?_ ?_; rotate_right; intro v' w4 hown' hgrow _))
                · have b23 : Later wr w3 := Later.step HB2.out HB3.out
                  have z2 := HB2.out.size
                  have z3 := HB3.out.size
                  have HO3 : ((w3.alloc (.cells #[.int .i64 ck, .slice p1 n1 c1, .slice p2 n2 c2, .string csrc] 35)).alloc (.cells #[.int .i64 ck, .slice p1 n1 c1, .slice p2 n2 c2, .string csrc] 35)).ownsRow w1.heap.size 35 4 (.slice vp out.length vc) out.length xs :=
                    ((owned_later (owned_later HO.out HB2.out) HB3.out).alloc _).alloc _
                  have HC3 : CmdCells ((w3.alloc (.cells #[.int .i64 ck, .slice p1 n1 c1, .slice p2 n2 c2, .string csrc] 35)).alloc (.cells #[.int .i64 ck, .slice p1 n1 c1, .slice p2 n2 c2, .string csrc] 35)) w1.heap.size ⟨ck, cns, cal, csrc⟩ [.int .i64 ck, .slice p1 n1 c1, .slice p2 n2 c2, .string csrc] :=
                    ⟨p1, n1, c1, p2, n2, c2, rfl, own_mono ((O1.out.alloc _).alloc _) (by omega), own_mono ((O2.out.alloc _).alloc _) (by omega)⟩
                  have HM3 : Cmds ((w3.alloc (.cells #[.int .i64 ck, .slice p1 n1 c1, .slice p2 n2 c2, .string csrc] 35)).alloc (.cells #[.int .i64 ck, .slice p1 n1 c1, .slice p2 n2 c2, .string csrc] 35)) w1.heap.size out xs :=
                    HCm.out.later (((b23.alloc (by omega) _)).alloc (by simp; omega) _)
                  have HOF : Aside (w4.ownsRow w1.heap.size 35 4 v' (out ++ [(⟨ck, cns, cal, csrc⟩ : Cmd)]).length (xs ++ [.int .i64 ck, .slice p1 n1 c1, .slice p2 n2 c2, .string csrc])) := by
                    show World.ownsRow _ _ _ _ _ _ _
                    rw [List.length_append]
                    exact hown'
                  have HCF : Aside (Cmds w4 w1.heap.size (out ++ [(⟨ck, cns, cal, csrc⟩ : Cmd)]) (xs ++ [.int .i64 ck, .slice p1 n1 c1, .slice p2 n2 c2, .string csrc])) :=
                    Cmds.snoc (HC3.grown HO3 hgrow) (HM3.grown HO3 hgrow)
                  have HLF : Aside (Later w1 w4) := by
                    refine (((HL.out.trans (b23.mono (by omega))).alloc (by omega) _).alloc (by simp; omega) _).grown hgrow (by simp; omega) (fun q hq => own_block HO.out q hq)
                  clear hown' hgrow
                  go_roundg G
                  case measure => omega
                  case rel => exact ⟨k + 1, _, _, by omega, by omega, by go_num, by simp; omega, HLF.out, HP2.out, HOF.out, HCF.out⟩
                · exact ⟨rfl, rfl, rfl, rfl⟩
                · unfold maxLen; omega
                · omega
                · have := HB2.out.size; have := HB3.out.size; omega
      · have hkz : k = n := by omega
        subst hkz
        have hfin : Aside (parseR s = (out, 0, 0)) := by
          show _ = _
          rw [HP.out]
          cases gk with
          | zero => rfl
          | succ g =>
            have : ls[k]? = none := by rw [List.getElem?_eq_none_iff, HN.out]; exact Nat.le_refl _
            rw [parseGo, this]
        go_wp2
        go_ret3
        refine ⟨.slice vp out.length vc, xs, ?_, HL1.out.trans (HL.out.mono (by omega)), ?_, ?_⟩
        · rw [hfin.out]; first | done | rfl
        · rw [hfin.out]; exact own_mono HO.out hz1'
        · rw [hfin.out]; exact Cmds.mono hz1' HCm.out
end Go.Proofs.YtlkhkalniekaoaaGreatDoor
end

section
/- slices.Equal on two rows of the same numbers, of the same values. -/
namespace Go.Proofs.YtlkhkalniekaoaaGreatDoor
open Go.RowKit Go.Shelf Go.Sort Go.Lib

theorem own_lead {w : World} {B : Nat} {e : TypeId} {sz : Nat} {p : Option Addr} {m c n : Nat} {xs : List Value} (h : w.ownsRow B e sz (.slice p m c) n xs) (hn : 0 < n) :
    ∃ g, p = some ⟨g, 0, none⟩ ∧ m = n ∧ ∀ (j : Nat) (v : Value), xs[j]? = some v → w.cell? ⟨g, j, none⟩ = some v := by
  obtain ⟨q, rfl⟩ : ∃ q, n = q + 1 := ⟨n - 1, by omega⟩
  obtain ⟨g, cap, he, _, _⟩ := own_form h
  cases he
  refine ⟨g, rfl, rfl, fun j v hj => ?_⟩
  have hjl : j < xs.length := (List.getElem?_eq_some_iff.1 hj).1
  exact (h.cellAt j (by rw [← h.1]; exact hjl)).trans hj

set_option maxHeartbeats 2000000 in
set_option maxRecDepth 1000000 in
theorem equalInts (w : World) (p1 p2 : Option Addr) (m1 c1 m2 c2 B1 B2 : Nat) (ns : List Int) (h1 : w.ownsRow B1 3 1 (.slice p1 m1 c1) ns.length (ns.map (Value.int .i64))) (h2 : w.ownsRow B2 3 1 (.slice p2 m2 c2) ns.length (ns.map (Value.int .i64))) (hl : ns.length ≤ 1000000) :
    Calls Tryz.prog 25 #[.slice p1 m1 c1, .slice p2 m2 c2] w fun e w' => e = .returned (.bool true) ∧ Later w w' := by
  by_cases hz : 0 < ns.length
  · obtain ⟨g1, rfl, rfl, k1⟩ := own_lead h1 hz
    obtain ⟨g2, rfl, rfl, k2⟩ := own_lead h2 hz
    have K1 : Aside (∀ (j : Nat) (v : Value), (ns.map (Value.int .i64))[j]? = some v → w.cell? ⟨g1, j, none⟩ = some v) := k1
    have K2 : Aside (∀ (j : Nat) (v : Value), (ns.map (Value.int .i64))[j]? = some v → w.cell? ⟨g2, j, none⟩ = some v) := k2
    clear h1 h2 k1 k2
    obtain ⟨n, hn⟩ : ∃ n, ns.length = n := ⟨_, rfl⟩
    rw [hn] at hl hz ⊢
    have HN : Aside (ns.length = n) := hn
    clear hn
    go_enter Tryz.func25, Tryz.ntmps25
    go_wp2
    go_loopg [13] n (fun g i wr => ∃ k : Nat, k + g = n ∧ i = .int .i64 k ∧ Aside (Later w wr))
    case atStart => exact ⟨0, by omega, rfl, Below.refl _ _⟩
    case round =>
      obtain ⟨k, hk, rfl, HL⟩ := hrel
      by_cases hlt : k < n
      · obtain ⟨x, hx⟩ : ∃ x, ns[k]? = some x := ⟨_, List.getElem?_eq_getElem (by have := HN.out; omega)⟩
        have d1 : wr.cell? ⟨g1, k, none⟩ = some (.int .i64 x) := HL.out.cellOf (K1.out k _ (by rw [List.getElem?_map, hx]; first | done | rfl))
        have d2 : wr.cell? ⟨g2, k, none⟩ = some (.int .i64 x) := HL.out.cellOf (K2.out k _ (by rw [List.getElem?_map, hx]; first | done | rfl))
        clear hx
        go_wp2
        go_region
        all_goals go_wp2
        all_goals go_roundg (gk - 1)
        all_goals first
          | omega
          | exact ⟨k + 1, by omega, by go_num, HL.out.drew⟩
      · go_wp2
        go_ret
        exact ⟨rfl, HL.out⟩
  · obtain ⟨q1, d1, e1⟩ := own_len h1
    obtain ⟨q2, d2, e2⟩ := own_len h2
    cases e1
    cases e2
    have hz0 : ns.length = 0 := by omega
    rw [hz0]
    clear h1 h2 hz hz0 hl
    go_enter Tryz.func25, Tryz.ntmps25
    go_wp2
    refine wp_loop_rounds 1 ?_
    rw [rounds_succ]
    go_wp2
    go_ret
    exact ⟨rfl, Below.refl _ _⟩
end Go.Proofs.YtlkhkalniekaoaaGreatDoor
end

section
/- slices.Equal on two rows of the same values. -/
namespace Go.Proofs.YtlkhkalniekaoaaGreatDoor
open Go.RowKit Go.Shelf Go.Sort Go.Lib

theorem argCells_at {al : List Arg} {k : Nat} {x : Arg} (h : al[k]? = some x) : (argCells al)[k * 5]? = some (.int .u8 x.k) ∧ (argCells al)[k * 5 + 1]? = some (.int .i64 x.n) ∧ (argCells al)[k * 5 + 2]? = some (.string x.s) ∧ (argCells al)[k * 5 + 3]? = some (.int .i64 x.h) ∧ (argCells al)[k * 5 + 4]? = some (.bool x.is) := by
  induction al generalizing k with
  | nil => simp at h
  | cons y l ih =>
    have hc : argCells (y :: l) = y.cells ++ argCells l := rfl
    rw [hc]
    cases k with
    | zero =>
      simp at h
      subst h
      exact ⟨rfl, rfl, rfl, rfl, rfl⟩
    | succ k =>
      have h' := ih (k := k) (by simpa using h)
      have e : ∀ q, (y.cells ++ argCells l)[(k + 1) * 5 + q]? = (argCells l)[k * 5 + q]? := fun q => by
        rw [List.getElem?_append_right (by show y.cells.length ≤ _; simp [Arg.cells]; omega)]
        congr 1
        show (k + 1) * 5 + q - 5 = _
        omega
      have e0 := e 0
      simp only [Nat.add_zero] at e0
      rw [e0, e 1, e 2, e 3, e 4]
      exact h'

set_option maxHeartbeats 2000000 in
set_option maxRecDepth 1000000 in
theorem equalArgs (w : World) (p1 p2 : Option Addr) (m1 c1 m2 c2 B1 B2 : Nat) (al : List Arg) (h1 : w.ownsRow B1 49 5 (.slice p1 m1 c1) al.length (argCells al)) (h2 : w.ownsRow B2 49 5 (.slice p2 m2 c2) al.length (argCells al)) (hl : al.length ≤ 1000000) :
    Calls Tryz.prog 26 #[.slice p1 m1 c1, .slice p2 m2 c2] w fun e w' => e = .returned (.bool true) ∧ Later w w' := by
  by_cases hz : 0 < al.length
  · obtain ⟨g1, rfl, rfl, k1⟩ := own_lead h1 hz
    obtain ⟨g2, rfl, rfl, k2⟩ := own_lead h2 hz
    have K1 : Aside (∀ (j : Nat) (v : Value), (argCells al)[j]? = some v → w.cell? ⟨g1, j, none⟩ = some v) := k1
    have K2 : Aside (∀ (j : Nat) (v : Value), (argCells al)[j]? = some v → w.cell? ⟨g2, j, none⟩ = some v) := k2
    clear h1 h2 k1 k2
    obtain ⟨n, hn⟩ : ∃ n, al.length = n := ⟨_, rfl⟩
    rw [hn] at hl hz ⊢
    have HN : Aside (al.length = n) := hn
    clear hn
    go_enter Tryz.func26, Tryz.ntmps26
    go_wp2
    go_loopg [13] n (fun g i wr => ∃ k : Nat, k + g = n ∧ i = .int .i64 k ∧ Aside (Later w wr))
    case atStart => exact ⟨0, by omega, rfl, Below.refl _ _⟩
    case round =>
      obtain ⟨k, hk, rfl, HL⟩ := hrel
      by_cases hlt : k < n
      · obtain ⟨x, hx⟩ : ∃ x, al[k]? = some x := ⟨_, List.getElem?_eq_getElem (by have := HN.out; omega)⟩
        obtain ⟨a0, a1, a2, a3, a4⟩ := argCells_at hx
        have d0 : wr.cell? ⟨g1, k * 5, none⟩ = some (.int .u8 x.k) := HL.out.cellOf (K1.out _ _ a0)
        have d1 : wr.cell? ⟨g1, k * 5 + 1, none⟩ = some (.int .i64 x.n) := HL.out.cellOf (K1.out _ _ a1)
        have d2 : wr.cell? ⟨g1, k * 5 + 2, none⟩ = some (.string x.s) := HL.out.cellOf (K1.out _ _ a2)
        have d3 : wr.cell? ⟨g1, k * 5 + 3, none⟩ = some (.int .i64 x.h) := HL.out.cellOf (K1.out _ _ a3)
        have d4 : wr.cell? ⟨g1, k * 5 + 4, none⟩ = some (.bool x.is) := HL.out.cellOf (K1.out _ _ a4)
        have f0 : wr.cell? ⟨g2, k * 5, none⟩ = some (.int .u8 x.k) := HL.out.cellOf (K2.out _ _ a0)
        have f1 : wr.cell? ⟨g2, k * 5 + 1, none⟩ = some (.int .i64 x.n) := HL.out.cellOf (K2.out _ _ a1)
        have f2 : wr.cell? ⟨g2, k * 5 + 2, none⟩ = some (.string x.s) := HL.out.cellOf (K2.out _ _ a2)
        have f3 : wr.cell? ⟨g2, k * 5 + 3, none⟩ = some (.int .i64 x.h) := HL.out.cellOf (K2.out _ _ a3)
        have f4 : wr.cell? ⟨g2, k * 5 + 4, none⟩ = some (.bool x.is) := HL.out.cellOf (K2.out _ _ a4)
        clear hx a0 a1 a2 a3 a4
        go_wp2
        go_region
        all_goals go_wp2
        all_goals go_roundg (gk - 1)
        all_goals first
          | omega
          | exact ⟨k + 1, by omega, by go_num, HL.out.drew⟩
      · go_wp2
        go_ret
        exact ⟨rfl, HL.out⟩
  · obtain ⟨q1, d1, e1⟩ := own_len h1
    obtain ⟨q2, d2, e2⟩ := own_len h2
    cases e1
    cases e2
    have hz0 : al.length = 0 := by omega
    rw [hz0]
    clear h1 h2 hz hz0 hl
    go_enter Tryz.func26, Tryz.ntmps26
    go_wp2
    refine wp_loop_rounds 1 ?_
    rw [rounds_succ]
    go_wp2
    go_ret
    exact ⟨rfl, Below.refl _ _⟩
end Go.Proofs.YtlkhkalniekaoaaGreatDoor
end

section
/- palinglaw21.Same's closure on two like commands. -/
namespace Go.Proofs.YtlkhkalniekaoaaGreatDoor
open Go.RowKit Go.Shelf Go.Sort Go.Lib

set_option maxHeartbeats 2000000 in
set_option maxRecDepth 1000000 in
theorem same1 (w : World) (k : Int) (src : ByteArray) (ns : List Int) (al : List Arg) (p1 p2 q1 q2 : Option Addr) (m1 c1 m2 c2 n1 d1 n2 d2 B1 B2 : Nat)
    (h1 : w.ownsRow B1 3 1 (.slice p1 m1 c1) ns.length (ns.map (Value.int .i64))) (h2 : w.ownsRow B2 3 1 (.slice p2 m2 c2) ns.length (ns.map (Value.int .i64)))
    (h3 : w.ownsRow B1 49 5 (.slice q1 n1 d1) al.length (argCells al)) (h4 : w.ownsRow B2 49 5 (.slice q2 n2 d2) al.length (argCells al)) (hl1 : ns.length ≤ 1000000) (hl2 : al.length ≤ 1000000) :
    Calls Tryz.prog 24 #[.agg #[.int .i64 k, .slice p1 m1 c1, .slice q1 n1 d1, .string src], .agg #[.int .i64 k, .slice p2 m2 c2, .slice q2 n2 d2, .string src]] w fun e w' => e = .returned (.bool true) ∧ Later w w' := by
  have H1 : Aside _ := h1
  have H2 : Aside _ := h2
  have H3 : Aside _ := h3
  have H4 : Aside _ := h4
  clear h1 h2 h3 h4
  have B1' : Later w ((w.alloc (.cells #[.int .i64 k, .slice p1 m1 c1, .slice q1 n1 d1, .string src] 35)).alloc (.cells #[.int .i64 k, .slice p2 m2 c2, .slice q2 n2 d2, .string src] 35)) := ((Below.refl _ w).alloc (Nat.le_refl _) _).alloc (by simp) _
  have HB1 : Aside _ := B1'
  have x1 : Four ((w.alloc (.cells #[.int .i64 k, .slice p1 m1 c1, .slice q1 n1 d1, .string src] 35)).alloc (.cells #[.int .i64 k, .slice p2 m2 c2, .slice q2 n2 d2, .string src] 35)) w.heap.size (.int .i64 k) (.slice p1 m1 c1) (.slice q1 n1 d1) (.string src) :=
    (Four.new w _ _ _ _ _).later ((Below.refl _ _).alloc (Nat.le_refl _) _) (by simp)
  have x2 : Four ((w.alloc (.cells #[.int .i64 k, .slice p1 m1 c1, .slice q1 n1 d1, .string src] 35)).alloc (.cells #[.int .i64 k, .slice p2 m2 c2, .slice q2 n2 d2, .string src] 35)) (w.heap.size + 1) (.int .i64 k) (.slice p2 m2 c2) (.slice q2 n2 d2) (.string src) := by
    have := Four.new (w.alloc (.cells #[.int .i64 k, .slice p1 m1 c1, .slice q1 n1 d1, .string src] 35)) (.int .i64 k) (.slice p2 m2 c2) (.slice q2 n2 d2) (.string src) 35
    rw [World.size_alloc] at this
    exact this
  have X1 : Aside _ := x1
  have X2 : Aside _ := x2
  have E1 := equalInts _ p1 p2 m1 c1 m2 c2 B1 B2 ns (owned_later H1.out B1') (owned_later H2.out B1') hl1
  have E2 := fun (w2 : World) (hb : Later w w2) => equalArgs w2 q1 q2 n1 d1 n2 d2 B1 B2 al (owned_later H3.out hb) (owned_later H4.out hb) hl2
  have HE2 : Aside _ := E2
  clear B1' x1 x2 E2
  go_enter Tryz.func24, Tryz.ntmps24
  go_wp2_with (first
    | (go_at_call 25; go_must (refine Calls.mono E1 ?_; rintro e w2 ⟨rfl, hb⟩; have HB2 : Aside (Later w w2) := Later.step HB1.out hb; have y1 := Four.later X1.out hb (by simp; omega); have y2 := Four.later X2.out hb (by simp); obtain ⟨⟨a0, a1, a2, a3⟩, -⟩ := id y1; obtain ⟨⟨b0, b1, b2, b3⟩, -⟩ := id y2; have Y1 : Aside _ := y1; have Y2 : Aside _ := y2; clear hb y1 y2))
    | (go_at_call 26; refine Calls.mono (HE2.out w2 HB2.out) ?_; rintro e w3 ⟨rfl, hb⟩; have HB3 : Aside (Later w2 w3) := hb; have y1 := Four.later Y1.out hb (cell_lt a0); have y2 := Four.later Y2.out hb (cell_lt b0); clear a0 a1 a2 a3 b0 b1 b2 b3; obtain ⟨⟨a0, a1, a2, a3⟩, -⟩ := id y1; obtain ⟨⟨b0, b1, b2, b3⟩, -⟩ := id y2; clear hb y1 y2))
  go_ret
  exact ⟨rfl, Later.step HB2.out HB3.out⟩
end Go.Proofs.YtlkhkalniekaoaaGreatDoor
end

section
/- slices.EqualFunc, palinglaw21.Same on like commands. -/
namespace Go.Proofs.YtlkhkalniekaoaaGreatDoor
open Go.RowKit Go.Shelf Go.Sort Go.Lib

theorem cmds_at {w : World} {B : Nat} : ∀ {l : List Cmd} {xs : List Value} {k : Nat} {c : Cmd}, Cmds w B l xs → l[k]? = some c →
    ∃ p1 n1 c1 p2 n2 c2, xs[k * 4]? = some (.int .i64 c.k) ∧ xs[k * 4 + 1]? = some (.slice p1 n1 c1) ∧ xs[k * 4 + 2]? = some (.slice p2 n2 c2) ∧ xs[k * 4 + 3]? = some (.string c.src) ∧
      w.ownsRow B 3 1 (.slice p1 n1 c1) c.ns.length (c.ns.map (Value.int .i64)) ∧ w.ownsRow B 49 5 (.slice p2 n2 c2) c.al.length (argCells c.al)
  | [], _, k, c, _, h => by simp at h
  | d :: r, xs, 0, c, ⟨a, t, hx, ⟨p1, n1, c1, p2, n2, c2, he, h1, h2⟩, ht⟩, h => by
    simp at h
    subst h
    subst he
    subst hx
    exact ⟨p1, n1, c1, p2, n2, c2, rfl, rfl, rfl, rfl, h1, h2⟩
  | d :: r, xs, k + 1, c, ⟨a, t, hx, ⟨p1, n1, c1, p2, n2, c2, he, h1, h2⟩, ht⟩, h => by
    obtain ⟨u1, v1, w1, u2, v2, w2, e0, e1, e2, e3, g1, g2⟩ := cmds_at (k := k) ht (by simpa using h)
    subst he
    subst hx
    have e : ∀ q, ([Value.int .i64 d.k, .slice p1 n1 c1, .slice p2 n2 c2, .string d.src] ++ t)[(k + 1) * 4 + q]? = t[k * 4 + q]? := fun q => by
      rw [List.getElem?_append_right (by simp; omega)]
      congr 1
      show (k + 1) * 4 + q - 4 = _
      omega
    have e00 := e 0
    simp only [Nat.add_zero] at e00
    exact ⟨u1, v1, w1, u2, v2, w2, e00.trans e0, (e 1).trans e1, (e 2).trans e2, (e 3).trans e3, g1, g2⟩

set_option maxHeartbeats 4000000 in
set_option maxRecDepth 1000000 in
theorem equalCmds (w : World) (l : List Cmd) (p1 p2 : Option Addr) (m1 c1 m2 c2 B1 B2 : Nat) (xs1 xs2 : List Value) (h1 : w.ownsRow B1 35 4 (.slice p1 m1 c1) l.length xs1) (g1 : Cmds w B1 l xs1)
    (h2 : w.ownsRow B2 35 4 (.slice p2 m2 c2) l.length xs2) (g2 : Cmds w B2 l xs2) (hl : l.length ≤ 1000000) (hs : ∀ c ∈ l, c.ns.length ≤ 1000000 ∧ c.al.length ≤ 1000000) :
    Calls Tryz.prog 23 #[.slice p1 m1 c1, .slice p2 m2 c2, .func (.func 24) #[] #[]] w fun e w' => e = .returned (.bool true) ∧ Later w w' := by
  by_cases hz : 0 < l.length
  · obtain ⟨a1, rfl, rfl, k1⟩ := own_lead h1 hz
    obtain ⟨a2, rfl, rfl, k2⟩ := own_lead h2 hz
    have K1 : Aside (∀ (j : Nat) (v : Value), xs1[j]? = some v → w.cell? ⟨a1, j, none⟩ = some v) := k1
    have K2 : Aside (∀ (j : Nat) (v : Value), xs2[j]? = some v → w.cell? ⟨a2, j, none⟩ = some v) := k2
    have G1 : Aside (Cmds w B1 l xs1) := g1
    have G2 : Aside (Cmds w B2 l xs2) := g2
    have HS : Aside (∀ c ∈ l, c.ns.length ≤ 1000000 ∧ c.al.length ≤ 1000000) := hs
    clear h1 h2 k1 k2 g1 g2 hs
    obtain ⟨n, hn⟩ : ∃ n, l.length = n := ⟨_, rfl⟩
    rw [hn] at hl hz ⊢
    have HN : Aside (l.length = n) := hn
    clear hn
    go_enter Tryz.func23, Tryz.ntmps23
    go_wp2
    go_loopg [17] n (fun g i wr => ∃ k : Nat, k + g = n ∧ i = .int .i64 k ∧ Aside (Later w wr))
    case atStart => exact ⟨0, by omega, rfl, Below.refl _ _⟩
    case round =>
      obtain ⟨k, hk, rfl, HL⟩ := hrel
      by_cases hlt : k < n
      · obtain ⟨c, hc⟩ : ∃ c, l[k]? = some c := ⟨_, List.getElem?_eq_getElem (by have := HN.out; omega)⟩
        obtain ⟨hs1, hs2⟩ := HS.out c (List.mem_of_getElem? hc)
        obtain ⟨u1, v1, w1, u2, v2, w2, e0, e1, e2, e3, r1, r2⟩ := cmds_at G1.out hc
        obtain ⟨u3, v3, w3, u4, v4, w4, f0, f1, f2, f3, r3, r4⟩ := cmds_at G2.out hc
        have hlw := HL.out.size
        have d0 : wr.cell? ⟨a1, k * 4, none⟩ = some _ := HL.out.cellOf (K1.out _ _ e0)
        have d1 : wr.cell? ⟨a1, k * 4 + 1, none⟩ = some _ := HL.out.cellOf (K1.out _ _ e1)
        have d2 : wr.cell? ⟨a1, k * 4 + 2, none⟩ = some _ := HL.out.cellOf (K1.out _ _ e2)
        have d3 : wr.cell? ⟨a1, k * 4 + 3, none⟩ = some _ := HL.out.cellOf (K1.out _ _ e3)
        have i0 : wr.cell? ⟨a2, k * 4, none⟩ = some _ := HL.out.cellOf (K2.out _ _ f0)
        have i1 : wr.cell? ⟨a2, k * 4 + 1, none⟩ = some _ := HL.out.cellOf (K2.out _ _ f1)
        have i2 : wr.cell? ⟨a2, k * 4 + 2, none⟩ = some _ := HL.out.cellOf (K2.out _ _ f2)
        have i3 : wr.cell? ⟨a2, k * 4 + 3, none⟩ = some _ := HL.out.cellOf (K2.out _ _ f3)
        have hA2 : a2 < wr.heap.size := cell_lt i0
        have HE : Aside (∀ w', Later w w' → Calls Tryz.prog 24 #[.agg #[.int .i64 c.k, .slice u1 v1 w1, .slice u2 v2 w2, .string c.src], .agg #[.int .i64 c.k, .slice u3 v3 w3, .slice u4 v4 w4, .string c.src]] w' fun e w'' => e = .returned (.bool true) ∧ Later w' w'') := fun w' hb =>
          same1 w' c.k c.src c.ns c.al u1 u3 u2 u4 v1 w1 v3 w3 v2 w2 v4 w4 B1 B2 (owned_later r1 hb) (owned_later r3 hb) (owned_later r2 hb) (owned_later r4 hb) hs1 hs2
        have HL2 : Aside (∀ o o', Later w ((wr.alloc o).alloc o')) := fun o o' => (HL.out.alloc hlw _).alloc (by simp; omega) _
        clear e0 e1 e2 e3 f0 f1 f2 f3 r1 r2 r3 r4 hc
        go_wp2_with (go_at_call 24; go_must (refine Calls.mono (HE.out _ (HL2.out _ _)) ?_; rintro e w5 ⟨rfl, hb⟩; have HB : Aside (Later _ w5) := hb; clear hb))
        go_roundg (gk - 1)
        case measure => omega
        case rel => exact ⟨k + 1, by omega, by go_num, Later.step (HL2.out _ _) HB.out⟩
      · go_wp2
        go_ret
        exact ⟨rfl, HL.out⟩
  · obtain ⟨q1, d1, e1⟩ := own_len h1
    obtain ⟨q2, d2, e2⟩ := own_len h2
    cases e1
    cases e2
    have hz0 : l.length = 0 := by omega
    rw [hz0]
    clear h1 h2 hz hz0 hl g1 g2 hs
    go_enter Tryz.func23, Tryz.ntmps23
    go_wp2
    refine wp_loop_rounds 1 ?_
    rw [rounds_succ]
    go_wp2
    go_ret
    exact ⟨rfl, Below.refl _ _⟩

theorem same_any (w : World) (l : List Cmd) (p1 p2 : Option Addr) (m1 c1 m2 c2 B1 B2 : Nat) (xs1 xs2 : List Value) (h1 : w.ownsRow B1 35 4 (.slice p1 m1 c1) l.length xs1) (g1 : Cmds w B1 l xs1)
    (h2 : w.ownsRow B2 35 4 (.slice p2 m2 c2) l.length xs2) (g2 : Cmds w B2 l xs2) (hl : l.length ≤ 1000000) (hs : ∀ c ∈ l, c.ns.length ≤ 1000000 ∧ c.al.length ≤ 1000000) :
    Calls Tryz.prog 9 #[.slice p1 m1 c1, .slice p2 m2 c2] w fun e w' => e = .returned (.bool true) ∧ Later w w' := by
  have E := equalCmds w l p1 p2 m1 c1 m2 c2 B1 B2 xs1 xs2 h1 g1 h2 g2 hl hs
  clear h1 g1 h2 g2 hl hs
  go_enter Tryz.func9, Tryz.ntmps9
  go_wp2_with (go_at_call 23; refine Calls.mono E ?_; rintro e w2 ⟨rfl, hb⟩)
  go_ret
  exact ⟨rfl, hb⟩
end Go.Proofs.YtlkhkalniekaoaaGreatDoor
end
