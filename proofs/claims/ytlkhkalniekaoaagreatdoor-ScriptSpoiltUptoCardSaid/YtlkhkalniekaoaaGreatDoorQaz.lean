/- Parts of the proof: Ug. -/
import Derived.Deep.RegionLaw
import Derived.Test.YtlkhkalniekaoaaGreatDoorQay
import Derived.Test.YtlkhkalniekaoaaGreatDoorQaw

set_option linter.unusedVariables false
set_option linter.unusedSimpArgs false

section
/- (A).arg: the law's own value, and its word. -/
namespace Go.Proofs.YtlkhkalniekaoaaGreatDoor
open Go.RowKit Go.Shelf Go.Sort Go.Lib

theorem wrap64_small (z : Int) (h0 : 0 ≤ z) (h1 : z ≤ 1000000) : IntKind.i64.wrap z = z := by
  unfold IntKind.wrap
  simp only [IntKind.bits, IntKind.signed]
  simp
  omega
def ArgPost21 (a : AV) (w : World) (e : Ending) (w' : World) : Prop := e = .returned (.tuple #[(argT a).1.v, .string (mkB (argT a).2)]) ∧ Later w w'
theorem five_kept (w w2 : World) (o : Obj) (y0 y1 y2 y3 y4 : Value) (T : TypeId) (h : Later ((w.alloc o).alloc (.cells #[y0, y1, y2, y3, y4] T)) w2) : Five w2 (w.heap.size + 1) y0 y1 y2 y3 y4 := by
  have h5 := (Five.new (w.alloc o) y0 y1 y2 y3 y4 T).later h (by simp)
  rw [World.size_alloc] at h5
  exact h5
theorem five_range (w w2 : World) (o : Obj) (y0 y1 y2 y3 y4 : Value) (T : TypeId) (h : Later ((w.alloc o).alloc (.cells #[y0, y1, y2, y3, y4] T)) w2) : w2.rangeAt (w.heap.size + 1) 0 [y0, y1, y2, y3, y4] := by
  have h5 := range_later (Five_range_new (w.alloc o) y0 y1 y2 y3 y4 T) h
  rw [World.size_alloc] at h5
  exact h5
set_option maxHeartbeats 4000000 in
set_option maxRecDepth 1000000 in
theorem arg21_nil (a : AV) (h : a.ok) (h5 : a.d % 5 = 0) (w : World) : Calls Tryz.prog 18 #[.agg #[.int .u8 a.d, .int .i64 a.n, .int .u8 a.s]] w (ArgPost21 a w) := by
  have hR : Hid (argT a = (⟨0, 0, ⟨#[]⟩, 0, false⟩, [110, 105, 108])) := by
    show _ = _
    unfold argT
    rw [if_neg (by omega), if_neg (by omega), if_neg (by omega), if_neg (by omega)]
  obtain ⟨⟨hd0, hd1⟩, ⟨hn0, hn1⟩, hs0, hs1⟩ := h
  go_enter Tryz.func18, Tryz.ntmps18
  go_wp2
  refine ret_arg rfl rfl (five_range w _ (.cells #[.int .u8 a.d, .int .i64 a.n, .int .u8 a.s] 66) (.int .u8 0) (.int .i64 0) (.string ⟨#[]⟩) (.int .i64 0) (.bool false) 49 ?_) rfl rfl ⟨by rw [hR.out]; first | done | rfl, ?_⟩
  all_goals repeat (first | exact Below.refl _ _ | refine Below.drew ?_ | refine Below.alloc ?_ (by first | (simp; done) | (simp; omega)) _)
set_option maxHeartbeats 4000000 in
set_option maxRecDepth 1000000 in
theorem arg21_no (a : AV) (h : a.ok) (h5 : a.d % 5 = 1) (h2 : a.s % 2 = 0) (w : World) : Calls Tryz.prog 18 #[.agg #[.int .u8 a.d, .int .i64 a.n, .int .u8 a.s]] w (ArgPost21 a w) := by
  have hR : Hid (argT a = (⟨1, 0, ⟨#[]⟩, 0, false⟩, [102, 97, 108, 115, 101])) := by
    show _ = _
    unfold argT
    rw [if_pos h5, if_pos h2, h2]
  obtain ⟨⟨hd0, hd1⟩, ⟨hn0, hn1⟩, hs0, hs1⟩ := h
  go_enter Tryz.func18, Tryz.ntmps18
  go_wp2
  go_region
  go_wp2
  refine ret_arg rfl rfl (five_range w _ (.cells #[.int .u8 a.d, .int .i64 a.n, .int .u8 a.s] 66) (.int .u8 1) (.int .i64 0) (.string ⟨#[]⟩) (.int .i64 0) (.bool false) 49 ?_) rfl rfl ⟨by rw [hR.out]; first | done | rfl, ?_⟩
  all_goals repeat (first | exact Below.refl _ _ | refine Below.drew ?_ | refine Below.alloc ?_ (by first | (simp; done) | (simp; omega)) _)
set_option maxHeartbeats 4000000 in
set_option maxRecDepth 1000000 in
theorem arg21_yes (a : AV) (h : a.ok) (h5 : a.d % 5 = 1) (h2 : a.s % 2 = 1) (w : World) : Calls Tryz.prog 18 #[.agg #[.int .u8 a.d, .int .i64 a.n, .int .u8 a.s]] w (ArgPost21 a w) := by
  have hR : Hid (argT a = (⟨1, 1, ⟨#[]⟩, 0, false⟩, [116, 114, 117, 101])) := by
    show _ = _
    unfold argT
    rw [if_pos h5, if_neg (by omega), h2]
  obtain ⟨⟨hd0, hd1⟩, ⟨hn0, hn1⟩, hs0, hs1⟩ := h
  go_enter Tryz.func18, Tryz.ntmps18
  go_wp2
  go_region
  go_wp2
  refine ret_arg rfl rfl (five_range w _ (.cells #[.int .u8 a.d, .int .i64 a.n, .int .u8 a.s] 66) (.int .u8 1) (.int .i64 1) (.string ⟨#[]⟩) (.int .i64 0) (.bool false) 49 ?_) rfl rfl ⟨by rw [hR.out]; first | done | rfl, ?_⟩
  all_goals repeat (first | exact Below.refl _ _ | refine Below.drew ?_ | refine Below.alloc ?_ (by first | (simp; done) | (simp; omega)) _)
set_option maxHeartbeats 4000000 in
set_option maxRecDepth 1000000 in
theorem arg21_t0 (a : AV) (h : a.ok) (h5 : a.d % 5 = 3) (h2 : a.s % 5 = 0) (w : World) : Calls Tryz.prog 18 #[.agg #[.int .u8 a.d, .int .i64 a.n, .int .u8 a.s]] w (ArgPost21 a w) := by
  have hR : Hid (argT a = (⟨3, 0, ⟨#[]⟩, 0, false⟩, [34, 34])) := by
    show _ = _
    unfold argT
    rw [if_neg (by omega), if_neg (by omega), if_pos h5, h2]
    first | done | rfl
  obtain ⟨⟨hd0, hd1⟩, ⟨hn0, hn1⟩, hs0, hs1⟩ := h
  go_enter Tryz.func18, Tryz.ntmps18
  go_wp2
  go_region
  go_wp2
  refine ret_arg rfl rfl (five_range w _ (.cells #[.int .u8 a.d, .int .i64 a.n, .int .u8 a.s] 66) (.int .u8 3) (.int .i64 0) (.string ⟨#[]⟩) (.int .i64 0) (.bool false) 49 ?_) rfl rfl ⟨by rw [hR.out]; first | done | rfl, ?_⟩
  all_goals repeat (first | exact Below.refl _ _ | refine Below.drew ?_ | refine Below.alloc ?_ (by first | (simp; done) | (simp; omega)) _)
set_option maxHeartbeats 4000000 in
set_option maxRecDepth 1000000 in
theorem arg21_t1 (a : AV) (h : a.ok) (h5 : a.d % 5 = 3) (h2 : a.s % 5 = 1) (w : World) : Calls Tryz.prog 18 #[.agg #[.int .u8 a.d, .int .i64 a.n, .int .u8 a.s]] w (ArgPost21 a w) := by
  have hR : Hid (argT a = (⟨3, 0, ⟨#[116]⟩, 0, false⟩, [34, 116, 34])) := by
    show _ = _
    unfold argT
    rw [if_neg (by omega), if_neg (by omega), if_pos h5, h2]
    first | done | rfl
  obtain ⟨⟨hd0, hd1⟩, ⟨hn0, hn1⟩, hs0, hs1⟩ := h
  go_enter Tryz.func18, Tryz.ntmps18
  go_wp2
  go_region
  go_wp2
  refine ret_arg rfl rfl (five_range w _ (.cells #[.int .u8 a.d, .int .i64 a.n, .int .u8 a.s] 66) (.int .u8 3) (.int .i64 0) (.string ⟨#[116]⟩) (.int .i64 0) (.bool false) 49 ?_) rfl rfl ⟨by rw [hR.out]; first | done | rfl, ?_⟩
  all_goals repeat (first | exact Below.refl _ _ | refine Below.drew ?_ | refine Below.alloc ?_ (by first | (simp; done) | (simp; omega)) _)
set_option maxHeartbeats 4000000 in
set_option maxRecDepth 1000000 in
theorem arg21_t2 (a : AV) (h : a.ok) (h5 : a.d % 5 = 3) (h2 : a.s % 5 = 2) (w : World) : Calls Tryz.prog 18 #[.agg #[.int .u8 a.d, .int .i64 a.n, .int .u8 a.s]] w (ArgPost21 a w) := by
  have hR : Hid (argT a = (⟨3, 0, ⟨#[97, 43, 98]⟩, 0, false⟩, [34, 97, 43, 98, 34])) := by
    show _ = _
    unfold argT
    rw [if_neg (by omega), if_neg (by omega), if_pos h5, h2]
    first | done | rfl
  obtain ⟨⟨hd0, hd1⟩, ⟨hn0, hn1⟩, hs0, hs1⟩ := h
  go_enter Tryz.func18, Tryz.ntmps18
  go_wp2
  go_region
  go_wp2
  refine ret_arg rfl rfl (five_range w _ (.cells #[.int .u8 a.d, .int .i64 a.n, .int .u8 a.s] 66) (.int .u8 3) (.int .i64 0) (.string ⟨#[97, 43, 98]⟩) (.int .i64 0) (.bool false) 49 ?_) rfl rfl ⟨by rw [hR.out]; first | done | rfl, ?_⟩
  all_goals repeat (first | exact Below.refl _ _ | refine Below.drew ?_ | refine Below.alloc ?_ (by first | (simp; done) | (simp; omega)) _)
set_option maxHeartbeats 4000000 in
set_option maxRecDepth 1000000 in
theorem arg21_t3 (a : AV) (h : a.ok) (h5 : a.d % 5 = 3) (h2 : a.s % 5 = 3) (w : World) : Calls Tryz.prog 18 #[.agg #[.int .u8 a.d, .int .i64 a.n, .int .u8 a.s]] w (ArgPost21 a w) := by
  have hR : Hid (argT a = (⟨3, 0, ⟨#[34, 92]⟩, 0, false⟩, [34, 92, 34, 92, 92, 34])) := by
    show _ = _
    unfold argT
    rw [if_neg (by omega), if_neg (by omega), if_pos h5, h2]
    first | done | rfl
  obtain ⟨⟨hd0, hd1⟩, ⟨hn0, hn1⟩, hs0, hs1⟩ := h
  go_enter Tryz.func18, Tryz.ntmps18
  go_wp2
  go_region
  go_wp2
  refine ret_arg rfl rfl (five_range w _ (.cells #[.int .u8 a.d, .int .i64 a.n, .int .u8 a.s] 66) (.int .u8 3) (.int .i64 0) (.string ⟨#[34, 92]⟩) (.int .i64 0) (.bool false) 49 ?_) rfl rfl ⟨by rw [hR.out]; first | done | rfl, ?_⟩
  all_goals repeat (first | exact Below.refl _ _ | refine Below.drew ?_ | refine Below.alloc ?_ (by first | (simp; done) | (simp; omega)) _)
set_option maxHeartbeats 4000000 in
set_option maxRecDepth 1000000 in
theorem arg21_t4 (a : AV) (h : a.ok) (h5 : a.d % 5 = 3) (h2 : a.s % 5 = 4) (w : World) : Calls Tryz.prog 18 #[.agg #[.int .u8 a.d, .int .i64 a.n, .int .u8 a.s]] w (ArgPost21 a w) := by
  have hR : Hid (argT a = (⟨3, 0, ⟨#[120, 10, 121]⟩, 0, false⟩, [34, 120, 92, 110, 121, 34])) := by
    show _ = _
    unfold argT
    rw [if_neg (by omega), if_neg (by omega), if_pos h5, h2]
    first | done | rfl
  obtain ⟨⟨hd0, hd1⟩, ⟨hn0, hn1⟩, hs0, hs1⟩ := h
  go_enter Tryz.func18, Tryz.ntmps18
  go_wp2
  go_region
  go_wp2
  refine ret_arg rfl rfl (five_range w _ (.cells #[.int .u8 a.d, .int .i64 a.n, .int .u8 a.s] 66) (.int .u8 3) (.int .i64 0) (.string ⟨#[120, 10, 121]⟩) (.int .i64 0) (.bool false) 49 ?_) rfl rfl ⟨by rw [hR.out]; first | done | rfl, ?_⟩
  all_goals repeat (first | exact Below.refl _ _ | refine Below.drew ?_ | refine Below.alloc ?_ (by first | (simp; done) | (simp; omega)) _)
set_option maxHeartbeats 4000000 in
set_option maxRecDepth 1000000 in
theorem arg21_int (a : AV) (h : a.ok) (h5 : a.d % 5 = 2) (w : World) (hc : Calm w) : Calls Tryz.prog 18 #[.agg #[.int .u8 a.d, .int .i64 a.n, .int .u8 a.s]] w (ArgPost21 a w) := by
  have hR : Hid (argT a = (⟨2, a.n, ⟨#[]⟩, 0, false⟩, Lib.itoa a.n)) := by
    show _ = _
    unfold argT
    rw [if_neg (by omega), if_pos h5]
  obtain ⟨⟨hd0, hd1⟩, ⟨hn0, hn1⟩, hs0, hs1⟩ := h
  have HF : Aside (∀ w', Later w w' → Calls Tryz.prog 37 #[.int .i64 a.n, .int .i64 10] w' fun e w'' => e = .returned (.string ⟨(Lib.itoa a.n).toArray⟩) ∧ Later w' w'') := fun w' hl => formatInt_any a.n ⟨hn0, hn1⟩ w' (hc.later hl)
  clear hc
  go_enter Tryz.func18, Tryz.ntmps18
  go_wp2
  go_region_with (go_at_call 37; (with_reducible refine Calls.mono (HF.out _ (by repeat (first | exact Below.refl _ _ | refine Below.drew ?_ | refine Below.alloc ?_ (by first | (simp; done) | (simp; omega)) _))) ?_); rintro e w2 ⟨rfl, hb⟩; have H5 := five_kept w w2 (.cells #[.int .u8 a.d, .int .i64 a.n, .int .u8 a.s] 66) (.int .u8 0) (.int .i64 0) (.string ⟨#[]⟩) (.int .i64 0) (.bool false) 49 (by refine Later.step ?_ hb; repeat (first | exact Below.refl _ _ | refine Below.drew ?_ | refine Below.alloc ?_ (by first | (simp; done) | (simp; omega)) _)); obtain ⟨⟨c0, c1, c2, c3, c4⟩, f0, f1, f2, f3, f4⟩ := id H5; have H3 := (Three.new w (.int .u8 a.d) (.int .i64 a.n) (.int .u8 a.s) 66).later (Later.step (by repeat (first | exact Below.refl _ _ | refine Below.drew ?_ | refine Below.alloc ?_ (by first | (simp; done) | (simp; omega)) _)) hb) (by simp); obtain ⟨⟨b0, b1, b2⟩, -⟩ := id H3; have HB : Aside (Later w w2) := Later.step (by repeat (first | exact Below.refl _ _ | refine Below.drew ?_ | refine Below.alloc ?_ (by first | (simp; done) | (simp; omega)) _)) hb; clear hb H3)
  all_goals go_wp2
  all_goals exact ret_arg rfl rfl (H5.range _ _ _ _ _) rfl rfl ⟨by rw [hR.out]; first | done | rfl, below_put5 HB.out (by omega) _ _ _ _ _⟩
set_option maxHeartbeats 4000000 in
set_option maxRecDepth 1000000 in
theorem arg21_ref (a : AV) (h : a.ok) (h5 : a.d % 5 = 4) (w : World) (hc : Calm w) : Calls Tryz.prog 18 #[.agg #[.int .u8 a.d, .int .i64 a.n, .int .u8 a.s]] w (ArgPost21 a w) := by
  have hR : Hid (argT a = (⟨0, 0, ⟨#[]⟩, a.s, true⟩, 35 :: Lib.itoa a.s)) := by
    show _ = _
    unfold argT
    rw [if_neg (by omega), if_neg (by omega), if_neg (by omega), if_pos h5]
  obtain ⟨⟨hd0, hd1⟩, ⟨hn0, hn1⟩, hs0, hs1⟩ := h
  obtain ⟨T, hT⟩ : ∃ T : ByteArray, mkB (Lib.itoa a.s) = T := ⟨_, rfl⟩
  have hTs : T.size ≤ 20 := by rw [← hT, mkB_size]; exact itoa_len a.s (by omega) (by omega)
  have HF : Aside (∀ z w', z = a.s → Later w w' → Calls Tryz.prog 16 #[.int .i64 z] w' fun e w'' => e = .returned (.string T) ∧ Later w' w'') := fun z w' hz hl => by
    rw [hz, ← hT]
    exact itoa_any a.s ⟨by omega, by omega⟩ w' (hc.later hl)
  have HW : Aside (IntKind.i64.wrap a.s = a.s) := wrap64_small a.s hs0 (by omega)
  have HT : Aside (mkB (35 :: Lib.itoa a.s) = ⟨#[35]⟩ ++ T) := by
    show _ = _
    rw [← hT]
    exact mkB_app [35] (Lib.itoa a.s)
  clear hT
  clear hc
  go_enter Tryz.func18, Tryz.ntmps18
  go_wp2
  go_region_with (go_at_call 16; (with_reducible refine Calls.mono (HF.out _ _ (wrap64_small a.s hs0 (by omega)) (by repeat (first | exact Below.refl _ _ | refine Below.drew ?_ | refine Below.alloc ?_ (by first | (simp; done) | (simp; omega)) _))) ?_); rintro e w2 ⟨rfl, hb⟩; have H5 := five_kept w w2 (.cells #[.int .u8 a.d, .int .i64 a.n, .int .u8 a.s] 66) (.int .u8 0) (.int .i64 0) (.string ⟨#[]⟩) (.int .i64 0) (.bool false) 49 (by refine Later.step ?_ hb; repeat (first | exact Below.refl _ _ | refine Below.drew ?_ | refine Below.alloc ?_ (by first | (simp; done) | (simp; omega)) _)); obtain ⟨⟨c0, c1, c2, c3, c4⟩, f0, f1, f2, f3, f4⟩ := id H5; have H3 := (Three.new w (.int .u8 a.d) (.int .i64 a.n) (.int .u8 a.s) 66).later (Later.step (by repeat (first | exact Below.refl _ _ | refine Below.drew ?_ | refine Below.alloc ?_ (by first | (simp; done) | (simp; omega)) _)) hb) (by simp); obtain ⟨⟨b0, b1, b2⟩, -⟩ := id H3; have HB : Aside (Later w w2) := Later.step (by repeat (first | exact Below.refl _ _ | refine Below.drew ?_ | refine Below.alloc ?_ (by first | (simp; done) | (simp; omega)) _)) hb; clear hb H3)
  all_goals go_wp2
  all_goals exact ret_arg rfl rfl (H5.range _ _ _ _ _) rfl rfl ⟨by rw [hR.out]; simp only [HT.out, HW.out]; first | done | rfl, below_put5 HB.out (by omega) _ _ _ _ _⟩
theorem arg21_any (a : AV) (h : a.ok) (w : World) (hc : Calm w) : Calls Tryz.prog 18 #[.agg #[.int .u8 a.d, .int .i64 a.n, .int .u8 a.s]] w (ArgPost21 a w) := by
  have hd := h.1
  have hs := h.2.2
  have c5 : a.d % 5 = 0 ∨ a.d % 5 = 1 ∨ a.d % 5 = 2 ∨ a.d % 5 = 3 ∨ a.d % 5 = 4 := by omega
  rcases c5 with h5 | h5 | h5 | h5 | h5
  · exact arg21_nil a h h5 w
  · have c2 : a.s % 2 = 0 ∨ a.s % 2 = 1 := by omega
    rcases c2 with h2 | h2
    · exact arg21_no a h h5 h2 w
    · exact arg21_yes a h h5 h2 w
  · exact arg21_int a h h5 w hc
  · have c2 : a.s % 5 = 0 ∨ a.s % 5 = 1 ∨ a.s % 5 = 2 ∨ a.s % 5 = 3 ∨ a.s % 5 = 4 := by omega
    rcases c2 with h2 | h2 | h2 | h2 | h2
    · exact arg21_t0 a h h5 h2 w
    · exact arg21_t1 a h h5 h2 w
    · exact arg21_t2 a h h5 h2 w
    · exact arg21_t3 a h h5 h2 w
    · exact arg21_t4 a h h5 h2 w
  · exact arg21_ref a h h5 w hc
end Go.Proofs.YtlkhkalniekaoaaGreatDoor
end
