/- Parts of the proof: Ui. -/
import Derived.Test.YtlkhkalniekaoaaGreatDoorQba
import Derived.Test.YtlkhkalniekaoaaGreatDoorQbb

set_option linter.unusedVariables false
set_option linter.unusedSimpArgs false

section
/- (L).Line: the line of the law, as a command and as its text. -/
namespace Go.Proofs.YtlkhkalniekaoaaGreatDoor
open Go.RowKit Go.Shelf Go.Sort Go.Lib

def LinePost21 (l : LM) (w : World) (e : Ending) (w' : World) : Prop :=
  ∃ cs, e = .returned (.tuple #[.agg cs.toArray, .string (mkB (flat l.v.rows))]) ∧ Later w w' ∧ CmdCells w' w.heap.size l.v.cmd cs
theorem al2 {w : World} {a : Addr} {v : Value} (h : w.cell? a = some v) : ∀ o1 o2, ((w.alloc o1).alloc o2).cell? a = some v := fun o1 o2 =>
  Later.cellOf (((Below.refl _ w).alloc (Nat.le_refl _) o1).alloc (by simp) o2) h
theorem al5 {w : World} {a : Addr} {v : Value} (h : w.cell? a = some v) : ∀ o1 o2 o3 o4 o5, (((((w.alloc o1).alloc o2).alloc o3).alloc o4).alloc o5).cell? a = some v := fun o1 o2 o3 o4 o5 =>
  al2 (al2 (Later.cellOf ((Below.refl _ w).alloc (Nat.le_refl _) o1) h) o2 o3) o4 o5
theorem al6 {w : World} {a : Addr} {v : Value} (h : w.cell? a = some v) : ∀ o1 o2 o3 o4 o5 o6, ((((((w.alloc o1).alloc o2).alloc o3).alloc o4).alloc o5).alloc o6).cell? a = some v := fun o1 o2 o3 o4 o5 o6 =>
  al5 (Later.cellOf ((Below.refl _ w).alloc (Nat.le_refl _) o1) h) o2 o3 o4 o5 o6
theorem al7 {w : World} {a : Addr} {v : Value} (h : w.cell? a = some v) : ∀ o1 o2 o3 o4 o5 o6 o7, (((((((w.alloc o1).alloc o2).alloc o3).alloc o4).alloc o5).alloc o6).alloc o7).cell? a = some v := fun o1 o2 o3 o4 o5 o6 o7 =>
  Later.cellOf ((Below.refl _ _).alloc (Nat.le_refl _) o7) (al6 h o1 o2 o3 o4 o5 o6)

theorem new_cell {A A' : World} {cs : Array Value} {T : TypeId} {j : Nat} {v : Value} (h : cs[j]? = some v) (hl : Later (A.alloc (.cells cs T)) A') {n : Nat} (hn : n = A.heap.size) : A'.cell? ⟨n, j, none⟩ = some v := by
  subst hn
  exact hl.cellOf (by rw [World.cell?_alloc_at _ _ _ _ rfl]; exact h)
/-- The world ahead of the loop over the numbers. -/
abbrev World.line0 (w : World) (l : LM) (k : Nat) (g s : ByteArray) (A : Obj) : World :=
  ((((((((w.alloc (.cells #[.int .u8 l.d, .int .u32 l.a, .int .u32 l.b, l.va, l.vt, .int .u8 l.gap] 29)).alloc (.cells #[.int .i64 0, .slice none 0 0, .slice none 0 0, .string ⟨#[]⟩] 35)).alloc
    (.cells #[.int .i64 k, .slice none 0 0, .slice none 0 0, .string ⟨#[]⟩] 35)).alloc A).alloc (.cells #[.string g] 9)).alloc (.cells #[.string s] 9))).alloc (.cells #[.int .u32 l.a, .int .u32 l.b] 25)).drew
theorem line_start (w : World) (l : LM) (k : Nat) (g s : ByteArray) (A : Obj) :
    LineSt w (World.line0 w l k g s A) (w.heap.size + 7) w.heap.size (w.heap.size + 1) (w.heap.size + 2) (w.heap.size + 4) (w.heap.size + 5) (w.heap.size + 6) l k [] (.slice none 0 0) [] (.slice none 0 0) ⟨#[]⟩ s g := by
  have lat : ∀ X Y : World, Later X Y → ∀ o, Later X (Y.alloc o) := fun X Y h o => h.alloc h.size o
  have latd : ∀ X Y : World, Later X Y → Later X Y.drew := fun X Y h => h.drew
  have z1 : ∀ (X : World) (o : Obj), (X.alloc o).heap.size = X.heap.size + 1 := fun X o => World.size_alloc X o
  have zd : ∀ (X : World), X.drew.heap.size = X.heap.size := fun X => rfl
  refine ⟨?_, ?_, by omega, ?_, ?_, ?_, ?_, ?_, ?_, ⟨?_, ?_⟩, World.ownsRow_nil _ _ _ _, World.ownsRow_nil _ _ _ _⟩
  · exact (latd _ _ (lat _ _ (lat _ _ (lat _ _ (lat _ _ (lat _ _ (lat _ _ (lat _ _ (Below.refl _ _) (.cells #[.int .u8 l.d, .int .u32 l.a, .int .u32 l.b, l.va, l.vt, .int .u8 l.gap] 29)) (.cells #[.int .i64 0, .slice none 0 0, .slice none 0 0, .string ⟨#[]⟩] 35)) (.cells #[.int .i64 k, .slice none 0 0, .slice none 0 0, .string ⟨#[]⟩] 35)) A) (.cells #[.string g] 9)) (.cells #[.string s] 9)) (.cells #[.int .u32 l.a, .int .u32 l.b] 25)))
  · show _ ≤ (World.line0 w l k g s A).heap.size
    simp only [z1, zd]
    omega
  · intro j u hj
    exact new_cell (A := w) (T := 29) (cs := l.cells.toArray) (by simpa using hj) (latd _ _ (lat _ _ (lat _ _ (lat _ _ (lat _ _ (lat _ _ (lat _ _ (Below.refl _ _) (.cells #[.int .i64 0, .slice none 0 0, .slice none 0 0, .string ⟨#[]⟩] 35)) (.cells #[.int .i64 k, .slice none 0 0, .slice none 0 0, .string ⟨#[]⟩] 35)) A) (.cells #[.string g] 9)) (.cells #[.string s] 9)) (.cells #[.int .u32 l.a, .int .u32 l.b] 25))) rfl
  · have h := (Four.new (w.alloc (.cells #[.int .u8 l.d, .int .u32 l.a, .int .u32 l.b, l.va, l.vt, .int .u8 l.gap] 29)) (.int .i64 0) (.slice none 0 0) (.slice none 0 0) (.string ⟨#[]⟩) 35).later (latd _ _ (lat _ _ (lat _ _ (lat _ _ (lat _ _ (lat _ _ (Below.refl _ _) (.cells #[.int .i64 k, .slice none 0 0, .slice none 0 0, .string ⟨#[]⟩] 35)) A) (.cells #[.string g] 9)) (.cells #[.string s] 9)) (.cells #[.int .u32 l.a, .int .u32 l.b] 25))) (by simp)
    simp only [z1] at h
    exact h
  · have h := (Four.new ((w.alloc (.cells #[.int .u8 l.d, .int .u32 l.a, .int .u32 l.b, l.va, l.vt, .int .u8 l.gap] 29)).alloc (.cells #[.int .i64 0, .slice none 0 0, .slice none 0 0, .string ⟨#[]⟩] 35)) (.int .i64 k) (.slice none 0 0) (.slice none 0 0) (.string ⟨#[]⟩) 35).later (latd _ _ (lat _ _ (lat _ _ (lat _ _ (lat _ _ (Below.refl _ _) A) (.cells #[.string g] 9)) (.cells #[.string s] 9)) (.cells #[.int .u32 l.a, .int .u32 l.b] 25))) (by simp)
    simp only [z1] at h
    exact h
  · exact new_cell rfl (latd _ _ (lat _ _ (lat _ _ (Below.refl _ _) (.cells #[.string s] 9)) (.cells #[.int .u32 l.a, .int .u32 l.b] 25))) (by simp only [z1])
  · exact new_cell rfl (latd _ _ (lat _ _ (Below.refl _ _) (.cells #[.int .u32 l.a, .int .u32 l.b] 25))) (by simp only [z1])
  · have h : (World.alloc (((((w.alloc (.cells #[.int .u8 l.d, .int .u32 l.a, .int .u32 l.b, l.va, l.vt, .int .u8 l.gap] 29)).alloc (.cells #[.int .i64 0, .slice none 0 0, .slice none 0 0, .string ⟨#[]⟩] 35)).alloc (.cells #[.int .i64 k, .slice none 0 0, .slice none 0 0, .string ⟨#[]⟩] 35)).alloc A).alloc (.cells #[.string g] 9)) (.cells #[.string s] 9)).frozen? ⟨w.heap.size + 5, 0, none⟩ = false := World.frozen?_alloc_at _ _ _ _ (by simp only [z1])
    refine (Below.frozen (p := ⟨w.heap.size + 5, 0, none⟩) (latd _ _ (lat _ _ (Below.refl _ _) (.cells #[.int .u32 l.a, .int .u32 l.b] 25))) ?_).trans h
    simp only [z1]
    omega
  · exact new_cell rfl (latd _ _ (Below.refl _ _)) (by simp only [z1])
  · exact new_cell rfl (latd _ _ (Below.refl _ _)) (by simp only [z1])
theorem str_step {l : LV} {g : ByteArray} (hg : mkB l.g = g) (X t : List UInt8) : mkB X ++ (g ++ mkB t) = mkB (X ++ (l.g ++ t)) := by
  rw [mkB_app, mkB_app, hg]
theorem numCells_map (ns : List Nat) : numCells ns = (ns.map fun (n : Nat) => (n : Int)).map (Value.int .i64) := by simp [numCells]
theorem range_drew {w : World} {b o : Nat} {cs : List Value} (h : w.rangeAt b o cs) : w.drew.rangeAt b o cs := h
theorem line_end {w w2 : World} {B pl pr pc pg ps pn : Nat} {l : LM} {k : Nat} {ns : List Nat} {nv : Value} {al : List Arg} {av : Value} {src s g : ByteArray} (H : LineSt w w2 B pl pr pc pg ps pn l k ns nv al av src s g)
    (hcmd : (⟨k, ns.map fun (n : Nat) => (n : Int), al, src⟩ : Cmd) = l.v.cmd) (hflat : s ++ ⟨#[10]⟩ = mkB (flat l.v.rows)) :
    LinePost21 l w (.returned (.tuple #[.agg #[.int .i64 k, nv, av, .string src], .string (s ++ ⟨#[10]⟩)])) (World.put4 w2 pr (.int .i64 k) nv av (.string src)).drew := by
  have hlo := H.lo
  show LinePost21 l w _ (World.put4 w2.drew pr (.int .i64 k) nv av (.string src))
  obtain ⟨p1, m1, c1, rfl⟩ := own_slice H.nums
  obtain ⟨p2, m2, c2, rfl⟩ := own_slice H.args
  refine ⟨[.int .i64 k, .slice p1 m1 c1, .slice p2 m2 c2, .string src], by rw [hflat], below_put4 (H.later.drew) (by omega) _ _ _ _, ?_⟩
  rw [← hcmd]
  refine ⟨p1, m1, c1, p2, m2, c2, rfl, ?_, ?_⟩
  · have h := own_mono (own_put4 (w := w2.drew) (show World.ownsRow w2.drew B _ _ _ _ _ from H.nums) (b := pr) (by omega) (.int .i64 k) (.slice p1 m1 c1) (.slice p2 m2 c2) (.string src)) (show w.heap.size ≤ B by omega)
    rw [numCells_map] at h
    simpa using h
  · exact own_mono (own_put4 (w := w2.drew) (show World.ownsRow w2.drew B _ _ _ _ _ from H.args) (b := pr) (by omega) _ _ _ _) (show w.heap.size ≤ B by omega)
theorem cmd_eq {l : LV} {k : Nat} (hk : l.k = k) (h1 : k ≠ 1) (V : List AV) (hv : l.vs = V) : (⟨k, l.ns.map fun (n : Nat) => (n : Int), V.map fun a => (argT a).1, ⟨#[]⟩⟩ : Cmd) = l.cmd := by
  subst hv
  subst hk
  unfold LV.cmd LV.src
  rw [if_neg h1]
theorem flat_eq {l : LV} {k : Nat} (hk : l.k = k) (h1 : k ≠ 1) (V : List AV) (hv : l.vs = V) {s : ByteArray} (hs : s = mkB (formW k ++ Go.X.tailG l.g (l.ns.map Lib.decDigits ++ V.map fun a => (argT a).2))) : s ++ ⟨#[10]⟩ = mkB (flat l.rows) := by
  subst hv
  subst hk
  rw [l.flat_other h1, mkB_app, hs]
  first | done | rfl
theorem s_step {l : LV} {k : Nat} {g s : ByteArray} (hg : mkB l.g = g) (N : List (List UInt8)) (V : List AV) (a : AV) (hs : s = mkB (formW k ++ Go.X.tailG l.g (N ++ V.map fun a => (argT a).2))) :
    s ++ (g ++ mkB (argT a).2) = mkB (formW k ++ Go.X.tailG l.g (N ++ (V ++ [a]).map fun a => (argT a).2)) := by
  rw [hs, str_step hg, List.map_append, ← List.append_assoc N, tailG_app l.g (N ++ _) _, List.append_assoc]
  simp [Go.X.tailG]
set_option maxHeartbeats 8000000 in
set_option maxRecDepth 1000000 in
theorem line_law (w : World) (hc : Calm w) (hf2 : Forms21 w) (l : LM) (hin : l.inn w) :
    Calls Tryz.prog 7 #[.agg #[.int .u8 l.d, .int .u32 l.a, .int .u32 l.b, l.va, l.vt, .int .u8 l.gap]] w (LinePost21 l w) := by
  obtain ⟨hok, hsa, hst, hla, hlt, hzt⟩ := hin
  obtain ⟨⟨hd0, hd1⟩, ⟨ha0, ha1⟩, ⟨hb0, hb1⟩, hAok, hg0, hg1⟩ := id hok
  have hd0' : 0 ≤ l.d := hd0
  have hd1' : l.d ≤ 255 := hd1
  have ha0' : 0 ≤ l.a := ha0
  have ha1' : l.a ≤ 4294967295 := ha1
  have hb0' : 0 ≤ l.b := hb0
  have hb1' : l.b ≤ 4294967295 := hb1
  have hg0' : 0 ≤ l.gap := hg0
  have hg1' : l.gap ≤ 255 := hg1
  have hk9 := l.v.k_lt hok
  obtain ⟨k, hkk⟩ : ∃ k, l.v.k = k := ⟨_, rfl⟩
  have hk : l.d % 9 = (k : Int) := by
    rw [← hkk]
    show l.d % 9 = (((l.d % 9).toNat : Nat) : Int)
    omega
  rw [hkk] at hk9
  obtain ⟨gi, hgi⟩ : ∃ gi : Nat, l.gap % 3 = (gi : Int) := ⟨(l.gap % 3).toNat, by omega⟩
  have hgi3 : gi < 3 := by omega
  obtain ⟨g, hg⟩ : ∃ g, mkB l.v.g = g := ⟨_, rfl⟩
  have hgc : ∀ h : gi < ([Value.string ⟨#[32]⟩, .string ⟨#[32, 32]⟩, .string ⟨#[9]⟩] : List Value).length, ([Value.string ⟨#[32]⟩, .string ⟨#[32, 32]⟩, .string ⟨#[9]⟩] : List Value)[gi]'h = .string g := by
    intro h
    rw [← hg]
    unfold LV.g
    have e : l.v.gap = l.gap := rfl
    have h3 : gi = 0 ∨ gi = 1 ∨ gi = 2 := by omega
    rcases h3 with rfl | rfl | rfl
    · simp only [e, if_pos (show l.gap % 3 = 0 by omega)]; first | done | rfl
    · simp only [e, if_neg (show ¬ l.gap % 3 = 0 by omega), if_pos (show l.gap % 3 = 1 by omega)]; first | done | rfl
    · simp only [e, if_neg (show ¬ l.gap % 3 = 0 by omega), if_neg (show ¬ l.gap % 3 = 1 by omega)]; first | done | rfl
  have hgs : g.size ≤ 2 := by
    rw [← hg, mkB_size]
    unfold LV.g
    split
    · simp
    · split <;> simp
  obtain ⟨R, o1, fc, hfg, hft⟩ := hf2
  obtain ⟨ft1, ft2⟩ := hft k _ _ (form_find k hk9).2
  have hM2 := formM_le k hk9
  obtain ⟨M, hM⟩ : ∃ M, formM k = M := ⟨_, rfl⟩
  rw [hM] at ft2 hM2
  obtain ⟨Wd, hWd⟩ : ∃ Wd, (⟨(formW k).toArray⟩ : ByteArray) = Wd := ⟨_, rfl⟩
  rw [hWd] at ft1
  have g2 := al2 hfg
  have g5 := al5 hfg
  have g6 := al6 hfg
  have g7 := al7 hfg
  have t5 := al5 ft1
  have t6 := al6 ft2
  have t7 := al7 ft2
  clear hft hfg ft1 ft2 hd0 hd1 ha0 ha1 hb0 hb1 hg0 hg1
  have HOK : Aside l.v.ok := hok
  have HC : Aside (Calm w) := hc
  have HSA : Aside (SliceA w l.va l.args) := hsa
  have HST : Aside (SliceT w l.vt l.text) := hst
  have HAO : Aside (∀ x ∈ l.args, x.ok) := hAok
  have HG : Aside (mkB l.v.g = g) := hg
  have HW : Aside ((⟨(formW k).toArray⟩ : ByteArray) = Wd) := hWd
  have HM : Aside (formM k = M) := hM
  have HK : Aside (l.v.k = k) := hkk
  clear hok hc hsa hst hAok hg hWd hM hkk
  go_enter Tryz.func7, Tryz.ntmps7
  go_wp2
  go_region
  go_wp2
  generalize hpn : w.heap.size + 1 + 1 + 1 + 1 + 1 + 1 = pn
  generalize hps : w.heap.size + 1 + 1 + 1 + 1 + 1 = ps
  generalize hpg : w.heap.size + 1 + 1 + 1 + 1 = pg
  generalize hpa : w.heap.size + 1 + 1 + 1 = pa
  generalize hpc : w.heap.size + 1 + 1 = pc
  generalize hpr : w.heap.size + 1 = pr
  rw [hk, hgi]
  have HK9 : Aside (l.d % 9 = (k : Int)) := hk
  have HG3 : Aside (l.gap % 3 = (gi : Int)) := hgi
  clear hk hgi
  go_loopg [47] M (fun fu i wr => ∃ (j : Nat) (nv : Value) (s : ByteArray), j + fu = M ∧ i = .int .i64 j ∧ s.size ≤ 100 + 10 * j ∧ Aside (s = mkB (formW k ++ Go.X.tailG l.v.g ((l.v.ns.take j).map Lib.decDigits))) ∧
    Aside (LineSt w wr (w.heap.size + 7) w.heap.size pr pc pg ps pn l k (l.v.ns.take j) nv [] (.slice none 0 0) ⟨#[]⟩ s g))
  case atStart =>
    subst hpn hps hpg hpa hpc hpr
    refine ⟨0, .slice none 0 0, Wd, by omega, rfl, ?_, ?_, line_start w l k g Wd _⟩
    · rw [← HW.out, Lib.size_eq]
      have := formW_len k hk9
      show (formW k).length ≤ _
      omega
    · show _ = _
      rw [← HW.out]
      simp [Go.X.tailG, mkB]
  case round =>
    clear g2 g5 g6 g7 t5 t6 t7 hgc
    obtain ⟨j, nv, s, hj, rfl, hss, HS, HF⟩ := hrel
    have hlo := HF.out.lo
    have hsz := HF.out.size
    obtain ⟨pv, mv, cv, rfl⟩ := own_slice HF.out.nums
    obtain ⟨⟨c0, c1, c2, c3⟩, f0, f1, f2, f3⟩ := id HF.out.four
    have l5 : wr.cell? ⟨w.heap.size, 5, none⟩ = some (.int .u8 l.gap) := HF.out.lc 5 _ rfl
    have hnl : l.v.ns.length = M := by rw [← HM.out, ← HK.out]; exact l.v.ns_len HOK.out
    by_cases hjM : j < M
    · obtain ⟨x, hx, hx0, hx1⟩ : ∃ x : Int, [l.a, l.b][j]? = some x ∧ 0 ≤ x ∧ x ≤ 4294967295 := by
        have h2 : j = 0 ∨ j = 1 := by omega
        rcases h2 with rfl | rfl
        · exact ⟨l.a, rfl, ha0', ha1'⟩
        · exact ⟨l.b, rfl, hb0', hb1'⟩
      have hxc : wr.cell? ⟨pn, j, none⟩ = some (.int .u32 x) := by
        have h2 : j = 0 ∨ j = 1 := by omega
        rcases h2 with rfl | rfl
        · cases hx; exact HF.out.two.1
        · cases hx; exact HF.out.two.2
      obtain ⟨m, hm⟩ : ∃ m : Nat, x % 1000001 = (m : Int) := ⟨(x % 1000001).toNat, by omega⟩
      have hm6 : m ≤ 1000000 := by omega
      have hwm : Aside (IntKind.i64.wrap (x.tmod 1000001) = (m : Int)) := by
        show _ = _
        rw [Int.tmod_eq_emod_of_nonneg hx0, hm]
        exact wrap64_small _ (by omega) (by omega)
      have HTK : Aside (l.v.ns.take (j + 1) = l.v.ns.take j ++ [m]) := by
        show _ = _
        have e : l.v.ns[j]? = some m := by
          unfold LV.ns
          rw [show formM l.v.k = M by rw [HK.out]; exact HM.out, List.getElem?_map, List.getElem?_take_of_lt hjM]
          show Option.map _ ([l.a, l.b][j]?) = _
          rw [hx]
          show some ((x % 1000001).toNat) = _
          rw [hm]
          first | done | rfl
        rw [List.take_add_one, e]
        first | done | rfl
      clear hx
      obtain ⟨T, hT⟩ : ∃ T : ByteArray, mkB (Lib.decDigits m) = T := ⟨_, rfl⟩
      have hTs : T.size ≤ 8 := by
        rw [← hT, mkB_size]
        have : (Lib.decDigits m).length ≤ 7 := Go.X.dec_short (by omega) (by omega)
        omega
      have HI : Aside (∀ z w', z = (m : Int) → Later w w' → Calls Tryz.prog 16 #[.int .i64 z] w' fun e w'' => e = .returned (.string T) ∧ Later w' w'') := fun z w' hz hl => by
        rw [hz, ← hT]
        have := itoa_any (m : Int) ⟨by omega, by omega⟩ w' (HC.out.later hl)
        have e : Lib.itoa (m : Int) = Lib.decDigits m := by
          unfold Lib.itoa
          rw [if_neg (by omega)]
          first | done | rfl
        rw [e] at this
        exact this
      have HT : Aside (mkB (Lib.decDigits m) = T) := hT
      clear hT
      obtain ⟨i0, hi, hz0, hz1, hz2⟩ := info_parts (show (Tryz.prog.info? 3).map (fun i => (i.zero, i.size, i.bytes)) = some (some (.int .i64 0), 1, 8) by kernel_rfl)
      have hnj : (l.v.ns.take j).length = j := by rw [List.length_take]; omega
      have hq1 : ¬ 9223372036854775807 < g.size + T.size := by omega
      have hq2 : ¬ 9223372036854775807 < s.size + (g.size + T.size) := by omega
      have hq3 : ¬ 9223372036854775807 < s.size + (g ++ T).size := by rw [ByteArray.size_append]; omega
      go_wp2_with (at_builtin; refine wpList_append_own _ rfl (.tmp 52) (.tmp 56) 32 rfl (w.heap.size + 7) 3 i0 (.int .i64 0) 1 8 Tryz.underlying32 hi hz0 hz1 hz2 rfl (by decide) (.slice pv mv cv) (l.v.ns.take j).length (numCells (l.v.ns.take j)) (by simp [Act.eval, Act.put]) (HF.out.nums.alloc _) ⟨wr.heap.size, 0, none⟩ 1 1 [.int .i64 m] rfl rfl ?_ ?_ ?_ ?_ ?_ ?_; rotate_right; intro nv' w3 hown' hgrow _; have H3 : LineSt w (wr.alloc (.cells #[.int .i64 m] 3)) (w.heap.size + 7) w.heap.size pr pc pg ps pn l k (l.v.ns.take j) (.slice pv mv cv) [] (.slice none 0 0) ⟨#[]⟩ s g := HF.out.keep ((Below.refl _ wr).alloc (Nat.le_refl _) _); have hq := H3.grown H3.nums hgrow; have H4 : Aside (LineSt w (w3.setCell ⟨pc, 1, none⟩ nv') (w.heap.size + 7) w.heap.size pr pc pg ps pn l k (l.v.ns.take j ++ [m]) nv' [] (.slice none 0 0) ⟨#[]⟩ s g) := H3.addNum m hgrow hown'; clear c0 c1 c2 c3 f0 f1 f2 f3; obtain ⟨-, -, -, -, g5, g6, g7, g8, -, -⟩ := hq; obtain ⟨⟨c0, c1, c2, c3⟩, f0, f1, f2, f3⟩ := g5; clear H3 hgrow; rw [hnj] at hown'; obtain ⟨vg, vc, rfl, -, -⟩ := own_form hown'; clear hown')
      · go_region_law (go_simp; go_at_call 16; (with_reducible refine Calls.mono (HI.out _ _ hwm.out H4.out.later.drew) ?_); rintro e w4 ⟨rfl, hb⟩; have H5 : Aside (LineSt w w4 (w.heap.size + 7) w.heap.size pr pc pg ps pn l k (l.v.ns.take j ++ [m]) (.slice (some ⟨vg, 0, none⟩) (j + 1) vc) [] (.slice none 0 0) ⟨#[]⟩ s g) := H4.out.keep (Later.step ((Below.refl _ _).drew) hb); clear hb; have e1 := H5.out.str; have e2 := H5.out.strf; have e3 := H5.out.gap)
        all_goals go_wp2
        all_goals go_roundg (gk - 1)
        all_goals first
          | omega
          | (refine ⟨j + 1, _, _, by omega, by go_num, ?_, ?_, by rw [HTK.out]; exact H5.out.putS _⟩
             · simp only [ByteArray.size_append]; omega
             · show _ = _
               rw [HS.out, ← HT.out, str_step HG.out, HTK.out, List.map_append, tailG_app, List.append_assoc]
               simp [Go.X.tailG])
      · intro i u hi
        have hi0 : i = 0 := by have := (List.getElem?_eq_some_iff.1 hi).1; simp at this; exact this
        subst hi0
        show (wr.alloc _).cell? _ = _
        rw [Addr.add_mid, World.cell?_alloc_at _ _ _ _ rfl]
        simpa using hi
      · intro u hu
        simp only [List.mem_cons, List.not_mem_nil, or_false] at hu
        rw [hu]
        first | done | rfl
      · unfold maxLen; omega
      · omega
      · simp; omega
    · obtain rfl : j = M := by omega
      have HNS : Aside (l.v.ns.take j = l.v.ns) := List.take_of_length_le (by omega)
      have HF2 : Aside (LineSt w wr (w.heap.size + 7) w.heap.size pr pc pg ps pn l k l.v.ns (.slice pv mv cv) [] (.slice none 0 0) ⟨#[]⟩ s g) := by
        have h := HF.out
        rw [HNS.out] at h
        exact h
      have HS2 : Aside (s = mkB (formW k ++ Go.X.tailG l.v.g (l.v.ns.map Lib.decDigits ++ ([] : List AV).map fun a => (argT a).2))) := by
        show _ = _
        rw [HS.out, HNS.out, List.map_nil, List.append_nil]
      have hss2 : s.size ≤ 120 := by omega
      have HCW : Aside (Calm wr) := HC.out.later HF.out.later
      have hgap : (0 : Int) ≤ l.gap ∧ l.gap ≤ 255 := ⟨hg0', hg1'⟩
      clear HF HS hss HNS
      by_cases hk4 : k = 4
      · have b4 : ((k : Int) == 4) = true := by simp only [beq_iff_eq]; omega
        have HK4 : Aside (k ≠ 1) := by show _ ≠ _; omega
        have HV : Aside (l.v.vs = [] ++ [⟨3, 0, l.gap⟩]) := by
          show _ = _
          unfold LV.vs
          rw [if_pos (HK.out.trans hk4)]
          first | done | rfl
        clear hk4
        have HADD : Aside (Calls Tryz.prog 17 #[.agg #[.int .u8 3, .int .i64 0, .int .u8 l.gap], .pointer (some ⟨pc, 0, none⟩), .pointer (some ⟨ps, 0, none⟩), .pointer (some ⟨pg, 0, none⟩)] wr
            fun e w' => e = .returned (.tuple #[]) ∧ ∃ av', LineSt w w' (w.heap.size + 7) w.heap.size pr pc pg ps pn l k l.v.ns (.slice pv mv cv) ([] ++ [(argT ⟨3, 0, l.gap⟩).1]) av' ⟨#[]⟩ (s ++ (g ++ mkB (argT ⟨3, 0, l.gap⟩).2)) g) :=
          add_any w wr HCW.out _ _ _ _ _ _ _ l k _ _ _ _ _ s g HF2.out ⟨3, 0, l.gap⟩ ⟨⟨by simp, by simp⟩, ⟨by simp, by simp⟩, hgap⟩ (by simp) (by omega) (by omega)
        have hs2 : (s ++ (g ++ mkB (argT ⟨3, 0, l.gap⟩).2)).size ≤ 300 := by
          have := argT_len ⟨3, 0, l.gap⟩ ⟨⟨by simp, by simp⟩, ⟨by simp, by simp⟩, hgap⟩
          simp only [ByteArray.size_append, mkB_size]
          omega
        have HS3 : Aside _ := s_step (s := s) HG.out (l.v.ns.map Lib.decDigits) [] ⟨3, 0, l.gap⟩ HS2.out
        obtain ⟨s2, hs2e⟩ : ∃ s2, s ++ (g ++ mkB (argT ⟨3, 0, l.gap⟩).2) = s2 := ⟨_, rfl⟩
        rw [hs2e] at HADD HS3 hs2
        clear hs2e
        go_wp2_with (go_at_call 17; (with_reducible refine Calls.mono HADD.out ?_); rintro e w2 ⟨rfl, av, hb⟩; obtain ⟨pa2, ma2, ca2, rfl⟩ := own_slice hb.args; have H2 : Aside (LineSt w w2 (w.heap.size + 7) w.heap.size pr pc pg ps pn l k l.v.ns (.slice pv mv cv) ([] ++ [(argT ⟨3, 0, l.gap⟩).1]) (.slice pa2 ma2 ca2) ⟨#[]⟩ s2 g) := hb; clear hb c0 c1 c2 c3 f0 f1 f2 f3)
        obtain ⟨⟨c0, c1, c2, c3⟩, f0, f1, f2, f3⟩ := id H2.out.four
        obtain ⟨⟨d0, d1, d2, d3⟩, e0, e1, e2, e3⟩ := id H2.out.res
        have s0 := H2.out.str
        have hcat : ¬ 9223372036854775807 < s2.size + 1 := by omega
        go_region
        go_wp2
        refine ret_cmd rfl rfl (range_drew (H2.out.res.range _ _ _ _)) rfl rfl ?_
        exact line_end H2.out (cmd_eq HK.out HK4.out _ HV.out) (flat_eq HK.out HK4.out _ HV.out HS3.out)
      · by_cases hk5 : k = 5
        · have b4 : ((k : Int) == 4) = false := by simp only [beq_eq_false_iff_ne]; omega
          have b5 : ((k : Int) == 5) = true := by simp only [beq_iff_eq]; omega
          have HK5 : Aside (k = 5) := hk5
          have HK1 : Aside (k ≠ 1) := by show _ ≠ _; omega
          clear hk4 hk5
          obtain ⟨p, c, hva, hcl⟩ := HSA.out
          obtain ⟨N, hN⟩ : ∃ N, l.args.length = N := ⟨_, rfl⟩
          rw [hN] at hva hla
          have HVA : Aside (l.va = .slice p N c) := hva
          have HN : Aside (l.args.length = N) := hN
          have HCL : Aside (∀ i a, l.args[i]? = some a → ∃ R o, p = some ⟨R, o, none⟩ ∧ w.cell? ⟨R, o + i * 3, none⟩ = some (.int .u8 a.d) ∧ w.cell? ⟨R, o + i * 3 + 1, none⟩ = some (.int .i64 a.n) ∧ w.cell? ⟨R, o + i * 3 + 2, none⟩ = some (.int .u8 a.s)) := hcl
          clear hva hN hcl
          have hok4 : AV.ok ⟨4, 0, l.gap⟩ := ⟨⟨by simp, by simp⟩, ⟨by simp, by simp⟩, hgap⟩
          have HADD : Aside (Calls Tryz.prog 17 #[.agg #[.int .u8 4, .int .i64 0, .int .u8 l.gap], .pointer (some ⟨pc, 0, none⟩), .pointer (some ⟨ps, 0, none⟩), .pointer (some ⟨pg, 0, none⟩)] wr
              fun e w' => e = .returned (.tuple #[]) ∧ ∃ av', LineSt w w' (w.heap.size + 7) w.heap.size pr pc pg ps pn l k l.v.ns (.slice pv mv cv) ([] ++ [(argT ⟨4, 0, l.gap⟩).1]) av' ⟨#[]⟩ (s ++ (g ++ mkB (argT ⟨4, 0, l.gap⟩).2)) g) :=
            add_any w wr HCW.out _ _ _ _ _ _ _ l k _ _ _ _ _ s g HF2.out ⟨4, 0, l.gap⟩ hok4 (by simp) (by omega) (by omega)
          have hs2 : (s ++ (g ++ mkB (argT ⟨4, 0, l.gap⟩).2)).size ≤ 300 := by
            have := argT_len ⟨4, 0, l.gap⟩ hok4
            simp only [ByteArray.size_append, mkB_size]
            omega
          have HS3 : Aside _ := s_step (s := s) HG.out (l.v.ns.map Lib.decDigits) [] ⟨4, 0, l.gap⟩ HS2.out
          obtain ⟨s2, hs2e⟩ : ∃ s2, s ++ (g ++ mkB (argT ⟨4, 0, l.gap⟩).2) = s2 := ⟨_, rfl⟩
          rw [hs2e] at HADD HS3 hs2
          clear hs2e
          go_wp2_with (go_at_call 17; (with_reducible refine Calls.mono HADD.out ?_); rintro e w2 ⟨rfl, av, hb⟩; obtain ⟨pa2, ma2, ca2, rfl⟩ := own_slice hb.args; have H2 : Aside (LineSt w w2 (w.heap.size + 7) w.heap.size pr pc pg ps pn l k l.v.ns (.slice pv mv cv) ([] ++ [(argT ⟨4, 0, l.gap⟩).1]) (.slice pa2 ma2 ca2) ⟨#[]⟩ s2 g) := hb; clear hb c0 c1 c2 c3 f0 f1 f2 f3 l5; have l3 : w2.cell? ⟨w.heap.size, 3, none⟩ = some (.slice p N c) := (by rw [← HVA.out]; exact H2.out.lc 3 _ rfl))
          obtain ⟨W1, rfl⟩ : ∃ W, W = wr := ⟨_, rfl⟩
          go_loopg [88] N (fun fu i wr => ∃ (j : Nat) (av : Value) (s : ByteArray), j + fu = N ∧ i = .int .i64 j ∧ s.size ≤ 300 + 30 * j ∧ Aside (s = mkB (formW k ++ Go.X.tailG l.v.g (l.v.ns.map Lib.decDigits ++ ([(⟨4, 0, l.gap⟩ : AV)] ++ l.args.take (min j 19)).map fun a => (argT a).2))) ∧
            Aside (LineSt w wr (w.heap.size + 7) w.heap.size pr pc pg ps pn l k l.v.ns (.slice pv mv cv) (([(⟨4, 0, l.gap⟩ : AV)] ++ l.args.take (min j 19)).map fun a => (argT a).1) av ⟨#[]⟩ s g))
          case atStart => exact ⟨0, _, s2, by omega, rfl, by omega, HS3.out, H2.out⟩
          case round =>
            clear l3
            obtain ⟨j, av2, s3, hj, rfl, hss3, HS4, HF4⟩ := hrel
            obtain ⟨pa3, ma3, ca3, rfl⟩ := own_slice HF4.out.args
            have l3 : wr.cell? ⟨w.heap.size, 3, none⟩ = some (.slice p N c) := by rw [← HVA.out]; exact HF4.out.lc 3 _ rfl
            have hsz4 := HF4.out.size
            obtain ⟨⟨c0, c1, c2, c3⟩, f0, f1, f2, f3⟩ := id HF4.out.four
            by_cases hjN : j < N
            · obtain ⟨a, ha⟩ : ∃ a, l.args[j]? = some a := ⟨_, List.getElem?_eq_getElem (by rw [HN.out]; exact hjN)⟩
              obtain ⟨R, o, rfl, q0, q1, q2⟩ := HCL.out j a ha
              have hR : R < wr.heap.size := by
                have h1 := cell_lt q0
                have h2 := HF4.out.later.size
                show R < _
                exact Nat.lt_of_lt_of_le h1 h2
              have r0 := HF4.out.later.cellOf q0
              have r1 := HF4.out.later.cellOf q1
              have r2 := HF4.out.later.cellOf q2
              have hTK := take_min ha
              have haok := HAO.out a (List.mem_of_getElem? ha)
              have HAOK : Aside a.ok := haok
              clear q0 q1 q2 ha haok
              by_cases h19 : j < 19
              · have HTK : Aside (l.args.take (min (j + 1) 19) = l.args.take (min j 19) ++ [a]) := by
                  show _ = _
                  rw [hTK, if_pos h19]
                clear hTK
                have HADD2 : Aside (∀ w', Later wr w' → Calls Tryz.prog 17 #[.agg #[.int .u8 a.d, .int .i64 a.n, .int .u8 a.s], .pointer (some ⟨pc, 0, none⟩), .pointer (some ⟨ps, 0, none⟩), .pointer (some ⟨pg, 0, none⟩)] w'
                    fun e w'' => e = .returned (.tuple #[]) ∧ ∃ av', LineSt w w'' (w.heap.size + 7) w.heap.size pr pc pg ps pn l k l.v.ns (.slice pv mv cv) ((([(⟨4, 0, l.gap⟩ : AV)] ++ l.args.take (min j 19)).map fun a => (argT a).1) ++ [(argT a).1]) av' ⟨#[]⟩ (s3 ++ (g ++ mkB (argT a).2)) g) := fun w' hl =>
                  add_any w w' (HC.out.later (HF4.out.later.step hl)) _ _ _ _ _ _ _ l k _ _ _ _ _ s3 g (HF4.out.keep hl) a HAOK.out (by simp; omega) (by omega) (by omega)
                have hs5 : (s3 ++ (g ++ mkB (argT a).2)).size ≤ 300 + 30 * (j + 1) := by
                  have := argT_len a HAOK.out
                  simp only [ByteArray.size_append, mkB_size]
                  omega
                have HS5 : Aside _ := s_step (s := s3) HG.out (l.v.ns.map Lib.decDigits) ([(⟨4, 0, l.gap⟩ : AV)] ++ l.args.take (min j 19)) a HS4.out
                obtain ⟨s5, hs5e⟩ : ∃ s5, s3 ++ (g ++ mkB (argT a).2) = s5 := ⟨_, rfl⟩
                rw [hs5e] at HADD2 HS5 hs5
                clear hs5e
                go_wp2_with (go_at_call 17; (with_reducible refine Calls.mono (HADD2.out _ ((Below.refl _ _).alloc (Nat.le_refl _) _)) ?_); rintro e w5 ⟨rfl, av5, hb⟩; have H5 : Aside (LineSt w w5 (w.heap.size + 7) w.heap.size pr pc pg ps pn l k l.v.ns (.slice pv mv cv) ((([(⟨4, 0, l.gap⟩ : AV)] ++ l.args.take (min j 19)).map fun a => (argT a).1) ++ [(argT a).1]) av5 ⟨#[]⟩ s5 g) := hb; clear hb)
                go_roundg (gk - 1)
                case measure => omega
                case rel =>
                  refine ⟨j + 1, av5, s5, by omega, by go_num, hs5, ?_, ?_⟩
                  · show _ = _
                    rw [HTK.out, ← List.append_assoc]
                    exact HS5.out
                  · show LineSt _ _ _ _ _ _ _ _ _ _ _ _ _ _ _ _ _ _
                    rw [HTK.out, ← List.append_assoc, List.map_append]
                    exact H5.out
              · have HTK : Aside (l.args.take (min (j + 1) 19) = l.args.take (min j 19)) := by
                  show _ = _
                  rw [hTK, if_neg h19]
                clear hTK
                go_wp2
                go_roundg (gk - 1)
                case measure => omega
                case rel =>
                  refine ⟨j + 1, .slice pa3 ma3 ca3, s3, by omega, by go_num, by omega, ?_, ?_⟩
                  · show _ = _
                    rw [HTK.out]
                    exact HS4.out
                  · show LineSt _ _ _ _ _ _ _ _ _ _ _ _ _ _ _ _ _ _
                    rw [HTK.out]
                    exact HF4.out.keep ((Below.refl _ _).alloc (Nat.le_refl _) _)
            · have HV : Aside (l.v.vs = [(⟨4, 0, l.gap⟩ : AV)] ++ l.args.take (min j 19)) := l.v.vs_call (HK.out.trans HK5.out) (n := j) (by show l.args.length ≤ j; rw [HN.out]; omega)
              have hcat : ¬ 9223372036854775807 < s3.size + 1 := by omega
              have s0 := HF4.out.str
              obtain ⟨⟨d0, d1, d2, d3⟩, e0, e1, e2, e3⟩ := id HF4.out.res
              go_wp2
              go_region
              go_wp2
              refine ret_cmd rfl rfl (range_drew (HF4.out.res.range _ _ _ _)) rfl rfl ?_
              exact line_end HF4.out (cmd_eq HK.out HK1.out _ HV.out) (flat_eq HK.out HK1.out _ HV.out HS4.out)
        · have HVN : Aside (l.v.vs = []) := l.v.vs_none (by rw [HK.out]; exact hk4) (by rw [HK.out]; exact hk5)
          have b4 : ((k : Int) == 4) = false := by simp only [beq_eq_false_iff_ne]; omega
          have b5 : ((k : Int) == 5) = false := by simp only [beq_eq_false_iff_ne]; omega
          obtain ⟨⟨d0, d1, d2, d3⟩, e0, e1, e2, e3⟩ := id HF2.out.res
          have s0 := HF2.out.str
          by_cases hk1 : k = 1
          · have b1 : ((k : Int) == 1) = true := by simp only [beq_iff_eq]; omega
            have HK1 : Aside (k = 1) := hk1
            clear hk4 hk5 hk1
            obtain ⟨p, c, hvt, hcap, hcl⟩ := HST.out
            obtain ⟨N, hN⟩ : ∃ N, l.text.length = N := ⟨_, rfl⟩
            rw [hN] at hvt hlt
            have HVT : Aside (l.vt = .slice p N c) := hvt
            have HN : Aside (l.text.length = N) := hN
            have HCL : Aside (∀ i t, l.text[i]? = some t → ∃ R o, p = some ⟨R, o, none⟩ ∧ w.cell? ⟨R, o + i, none⟩ = some (.string t)) := hcl
            have HZ : Aside ((l.text.map ByteArray.size).sum ≤ 1048576) := hzt
            clear hvt hN hcl hcap hzt
            have l4 : wr.cell? ⟨w.heap.size, 4, none⟩ = some (.slice p N c) := by rw [← HVT.out]; exact HF2.out.lc 4 _ rfl
            go_wp2
            obtain ⟨W1, rfl⟩ : ∃ W, W = wr := ⟨_, rfl⟩
            go_loopg [13, 104] N (fun fu tv i wr => ∃ (j : Nat) (T : ByteArray), j + fu = N ∧ i = .int .i64 j ∧ tv = .string T ∧ T.size ≤ 2097152 ∧ Aside (T = mkB (runT l.text j)) ∧
              Aside (LineSt w wr (w.heap.size + 7) w.heap.size pr pc pg ps pn l k l.v.ns (.slice pv mv cv) [] (.slice none 0 0) ⟨#[]⟩ s g))
            case atStart => exact ⟨0, ⟨#[]⟩, by omega, rfl, rfl, Nat.zero_le _, rfl, HF2.out⟩
            case round =>
              clear l4 l5 c0 c1 c2 c3 f0 f1 f2 f3 d0 d1 d2 d3 e0 e1 e2 e3 s0
              obtain ⟨j, T, hj, rfl, rfl, hT2, HT, HF4⟩ := hrel
              have l4 : wr.cell? ⟨w.heap.size, 4, none⟩ = some (.slice p N c) := by rw [← HVT.out]; exact HF4.out.lc 4 _ rfl
              have hsz4 := HF4.out.size
              have hlo4 := HF4.out.lo
              obtain ⟨⟨c0, c1, c2, c3⟩, f0, f1, f2, f3⟩ := id HF4.out.four
              by_cases hjN : j < N
              · obtain ⟨t, ha⟩ : ∃ t, l.text[j]? = some t := ⟨_, List.getElem?_eq_getElem (by rw [HN.out]; exact hjN)⟩
                obtain ⟨R, o, rfl, q0⟩ := HCL.out j t ha
                have r0 := HF4.out.later.cellOf q0
                have hts : t.size ≤ 1048576 := by
                  have h1 := List.mem_of_getElem? ha
                  have h2 : ∀ ts : List ByteArray, t ∈ ts → t.size ≤ (ts.map ByteArray.size).sum := by
                    intro ts
                    induction ts with
                    | nil => intro h; cases h
                    | cons x r ih =>
                      intro h
                      rw [List.map_cons, List.sum_cons]
                      rcases List.mem_cons.1 h with rfl | h
                      · omega
                      · have := ih h; omega
                  have := h2 _ h1
                  have := HZ.out
                  omega
                have HRS := runT_step ha HT.out
                have hrl := runT_len l.text (j + 1)
                rw [HN.out] at hrl
                have hz := HZ.out
                have hrl2 : (runT l.text (j + 1)).length ≤ 2097152 := by omega
                have htw := textL_two t
                have HRA0 : ∀ w', Later wr w' → Calls Tryz.prog 19 #[.string t, .string ⟨#[10]⟩, .string ⟨#[]⟩] w' fun e w'' => e = .returned (.string (mkB (t.data.toList.filter (· != 10)))) ∧ Later w' w'' := fun w' hl => feedless t hts w' (HC.out.later (HF4.out.later.step hl))
                have hus : (mkB (t.data.toList.filter (· != 10))).size ≤ 1048576 := by
                  have h1 := List.length_filter_le (· != 10) t.data.toList
                  have h2 : t.size = t.data.toList.length := Lib.size_eq t
                  rw [mkB_size]
                  omega
                obtain ⟨U, hU⟩ : ∃ U, mkB (t.data.toList.filter (· != 10)) = U := ⟨_, rfl⟩
                rw [hU] at HRA0 htw hus
                have HRA : Aside (∀ w', Later wr w' → Calls Tryz.prog 19 #[.string t, .string ⟨#[10]⟩, .string ⟨#[]⟩] w' fun e w'' => e = .returned (.string U) ∧ Later w' w'') := HRA0
                clear q0 ha hU HRA0 hrl hz
                have hq1 : ¬ 9223372036854775807 < T.size + 1 := by omega
                have hq2 : ¬ 9223372036854775807 < T.size + U.size := by omega
                have hq3 : ¬ 9223372036854775807 < (T ++ (⟨#[10]⟩ : ByteArray)).size + U.size := by simp only [ByteArray.size_append]; show ¬ _ < T.size + 1 + _; omega
                have hq4 : ¬ 9223372036854775807 < T.size + 0 := by omega
                have hq5 : ¬ 9223372036854775807 < (T ++ (⟨#[10]⟩ : ByteArray)).size + 0 := by simp only [ByteArray.size_append]; show ¬ _ < T.size + 1 + _; omega
                have HRT : Aside ((∃ V, ((U.toList == [46]) = true ∧ V = ⟨#[]⟩ ∨ (U.toList == [46]) = false ∧ V = U) ∧ (j = 0 → T ++ V = mkB (runT l.text (j + 1))) ∧ (j ≠ 0 → T ++ (⟨#[10]⟩ : ByteArray) ++ V = mkB (runT l.text (j + 1))))) := by
                  rcases htw with ⟨h1, h2⟩ | ⟨h1, h2⟩
                  · exact ⟨_, .inl ⟨h1, rfl⟩, HRS _ h2⟩
                  · exact ⟨_, .inr ⟨h1, rfl⟩, HRS _ h2⟩
                clear HRS htw
                obtain ⟨V, hV, hj0, hj1⟩ := HRT.out
                have HJ0 : Aside (j = 0 → T ++ V = mkB (runT l.text (j + 1))) := hj0
                have HJ1 : Aside (j ≠ 0 → T ++ (⟨#[10]⟩ : ByteArray) ++ V = mkB (runT l.text (j + 1))) := hj1
                clear hj0 hj1 HRT
                have HRL : Aside (∀ X : ByteArray, X = mkB (runT l.text (j + 1)) → X.size ≤ 2097152) := fun X hX => by rw [hX, mkB_size]; exact hrl2
                clear hrl2
                by_cases h0 : j = 0
                · have r0z : wr.cell? ⟨R, o, none⟩ = some (.string t) := by
                    have h := r0
                    rw [h0] at h
                    exact h
                  rcases hV with ⟨hd, rfl⟩ | ⟨hd, rfl⟩
                  all_goals (
                    go_wp2_with (go_at_call 19; (with_reducible refine Calls.mono (HRA.out _ (Below.refl _ _)) ?_); rintro e w4 ⟨rfl, hb⟩; have H4 : Aside (LineSt w w4 (w.heap.size + 7) w.heap.size pr pc pg ps pn l k l.v.ns (.slice pv mv cv) [] (.slice none 0 0) ⟨#[]⟩ s g) := HF4.out.keep hb; clear hb)
                    go_roundg (gk - 1)
                    case measure => omega
                    case rel => exact ⟨j + 1, _, by omega, by (first | go_num | (rw [h0]; first | done | rfl) | (rw [h0]; go_num)), rfl, HRL.out _ (HJ0.out h0), HJ0.out h0, H4.out⟩)
                · have z1 : 0 < j := by omega
                  rcases hV with ⟨hd, rfl⟩ | ⟨hd, rfl⟩
                  all_goals (
                    go_wp2_with (go_at_call 19; (with_reducible refine Calls.mono (HRA.out _ (Below.refl _ _)) ?_); rintro e w4 ⟨rfl, hb⟩; have H4 : Aside (LineSt w w4 (w.heap.size + 7) w.heap.size pr pc pg ps pn l k l.v.ns (.slice pv mv cv) [] (.slice none 0 0) ⟨#[]⟩ s g) := HF4.out.keep hb; clear hb)
                    go_roundg (gk - 1)
                    case measure => omega
                    case rel => exact ⟨j + 1, _, by omega, by go_num, rfl, HRL.out _ (HJ1.out h0), HJ1.out h0, H4.out⟩)
              · have HTJ : Aside (T = mkB (Lib.join l.v.lines [10])) := by
                  show _ = _
                  rw [l.lines_run, HN.out, show N = j by omega]
                  exact HT.out
                have HFL := flat_load_eq HK.out HK1.out HVN.out HS2.out HTJ.out
                have HLN : Aside (l.v.lines = [] ↔ N = 0) := by
                  show _ ↔ _
                  rw [← HN.out]
                  unfold LV.lines LM.v
                  simp
                have H5 : Aside (LineSt w (wr.setCell ⟨pc, 3, none⟩ (.string T)) (w.heap.size + 7) w.heap.size pr pc pg ps pn l k l.v.ns (.slice pv mv cv) [] (.slice none 0 0) T s g) := HF4.out.putSrc T
                have s0 := HF4.out.str
                have sf0 := HF4.out.strf
                have hpcs : pc ≠ ps := by omega
                have hpsc : ps ≠ pc := by omega
                have hss4 : s.size ≤ 120 := hss2
                have hq1 : ¬ 9223372036854775807 < T.size + 1 := by omega
                have hq2 : ¬ 9223372036854775807 < 1 + T.size := by omega
                have hq3 : ¬ 9223372036854775807 < 1 + (T.size + 1) := by omega
                by_cases h0 : 0 < N
                · have HFL2 : Aside (s ++ ((⟨#[10]⟩ : ByteArray) ++ (T ++ (⟨#[10]⟩ : ByteArray)) ++ (⟨#[46]⟩ : ByteArray)) ++ ⟨#[10]⟩ = mkB (flat l.v.rows)) := HFL.2 (fun h => by have := HLN.out.1 h; omega)
                  clear HFL
                  go_wp2
                  have H6 := H5.out.putS (s ++ ((⟨#[10]⟩ : ByteArray) ++ (T ++ (⟨#[10]⟩ : ByteArray)) ++ (⟨#[46]⟩ : ByteArray)))
                  have hXs : (s ++ ((⟨#[10]⟩ : ByteArray) ++ (T ++ (⟨#[10]⟩ : ByteArray)) ++ (⟨#[46]⟩ : ByteArray))).size ≤ 2097300 := by
                    simp only [ByteArray.size_append]
                    show s.size + (1 + (T.size + 1) + 1) ≤ _; omega
                  clear c0 c1 c2 c3 f0 f1 f2 f3 s0 sf0
                  generalize (s ++ ((⟨#[10]⟩ : ByteArray) ++ (T ++ (⟨#[10]⟩ : ByteArray)) ++ (⟨#[46]⟩ : ByteArray))) = X at H6 HFL2 hXs ⊢
                  generalize ((wr.setCell ⟨pc, 3, none⟩ (.string T)).setCell ⟨ps, 0, none⟩ (.string X)) = W6 at H6 ⊢
                  have H7 : Aside (LineSt w W6 (w.heap.size + 7) w.heap.size pr pc pg ps pn l k l.v.ns (.slice pv mv cv) [] (.slice none 0 0) T X g) := H6
                  clear H6
                  obtain ⟨⟨c0, c1, c2, c3⟩, f0, f1, f2, f3⟩ := id H7.out.four
                  obtain ⟨⟨d0, d1, d2, d3⟩, e0, e1, e2, e3⟩ := id H7.out.res
                  have s0 := H7.out.str
                  have hcat : ¬ 9223372036854775807 < X.size + 1 := by omega
                  go_region
                  go_wp2
                  refine ret_cmd rfl rfl (range_drew (H7.out.res.range _ _ _ _)) rfl rfl ?_
                  exact line_end H7.out (cmd_load HK.out HK1.out HTJ.out HVN.out) HFL2.out
                · have HFL2 : Aside (s ++ ((⟨#[10]⟩ : ByteArray) ++ T ++ (⟨#[46]⟩ : ByteArray)) ++ ⟨#[10]⟩ = mkB (flat l.v.rows)) := HFL.1 (HLN.out.2 (by omega))
                  clear HFL
                  go_wp2
                  have H6 := H5.out.putS (s ++ ((⟨#[10]⟩ : ByteArray) ++ T ++ (⟨#[46]⟩ : ByteArray)))
                  have hXs : (s ++ ((⟨#[10]⟩ : ByteArray) ++ T ++ (⟨#[46]⟩ : ByteArray))).size ≤ 2097300 := by
                    simp only [ByteArray.size_append]
                    show s.size + (1 + T.size + 1) ≤ _; omega
                  clear c0 c1 c2 c3 f0 f1 f2 f3 s0 sf0
                  generalize (s ++ ((⟨#[10]⟩ : ByteArray) ++ T ++ (⟨#[46]⟩ : ByteArray))) = X at H6 HFL2 hXs ⊢
                  generalize ((wr.setCell ⟨pc, 3, none⟩ (.string T)).setCell ⟨ps, 0, none⟩ (.string X)) = W6 at H6 ⊢
                  have H7 : Aside (LineSt w W6 (w.heap.size + 7) w.heap.size pr pc pg ps pn l k l.v.ns (.slice pv mv cv) [] (.slice none 0 0) T X g) := H6
                  clear H6
                  obtain ⟨⟨c0, c1, c2, c3⟩, f0, f1, f2, f3⟩ := id H7.out.four
                  obtain ⟨⟨d0, d1, d2, d3⟩, e0, e1, e2, e3⟩ := id H7.out.res
                  have s0 := H7.out.str
                  have hcat : ¬ 9223372036854775807 < X.size + 1 := by omega
                  go_region
                  go_wp2
                  refine ret_cmd rfl rfl (range_drew (H7.out.res.range _ _ _ _)) rfl rfl ?_
                  exact line_end H7.out (cmd_load HK.out HK1.out HTJ.out HVN.out) HFL2.out
          · have b1 : ((k : Int) == 1) = false := by simp only [beq_eq_false_iff_ne]; omega
            have HK1 : Aside (k ≠ 1) := hk1
            clear hk4 hk5 hk1
            have hcat : ¬ 9223372036854775807 < s.size + 1 := by omega
            go_wp2
            go_region
            go_wp2
            refine ret_cmd rfl rfl (range_drew (HF2.out.res.range _ _ _ _)) rfl rfl ?_
            exact line_end HF2.out (cmd_eq HK.out HK1.out [] HVN.out) (flat_eq HK.out HK1.out [] HVN.out HS2.out)
end Go.Proofs.YtlkhkalniekaoaaGreatDoor
end
