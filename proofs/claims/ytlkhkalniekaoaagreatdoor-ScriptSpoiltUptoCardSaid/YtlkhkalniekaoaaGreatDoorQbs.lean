/- The law of ScriptSpoilt over its row. -/
import Derived.WideKeyArgs
import Derived.OpenVars
import Derived.Lay
import Derived.JoinedCond
import Derived.Carry
import Derived.Test.YtlkhkalniekaoaaGreatDoorQbq
import Derived.Test.YtlkhkalniekaoaaGreatDoorQbi
import Derived.Test.YtlkhkalniekaoaaGreatDoorQau
import Derived.Test.YtlkhkalniekaoaaGreatDoorQbj
import Derived.Test.YtlkhkalniekaoaaGreatDoorQbr
import Derived.Test.YtlkhkalniekaoaaGreatDoorQak

set_option linter.unusedVariables false
set_option linter.unusedSimpArgs false

section
/- The law of ScriptSpoilt over its row. -/
namespace Go.Proofs.YtlkhkalniekaoaaGreatDoor
open Go.RowKit Go.Shelf Go.Sort Go.Lib Go.ChangeShapes Go.WideShapes Go.ChangeAt
open Go.ChangeMaps (open_string shut_string)

theorem own : ownKnob Tryz.prog.godebug = none := by kernel_rfl
theorem awake_any (W : World) (hsh : W.ShapedOpen Tryz.prog) {ps : List MemPlace} (hL : DataW.LaidVars Tryz.prog W Rows.scriptSpoiltUptoRow.laid ps) :
    Calls Tryz.prog 5 #[] W fun e w' => e = .returned (.bool true) ∧ Later W w' := by
  obtain ⟨m, hr⟩ := Go.X.rel_laid hsh hL
  have h := Go.X.says21 m W _ (by decide) hr
  have hF := Go.X.laid_full hsh m
  rcases h with ⟨_, h⟩ | ⟨v, w', h1, _⟩
  · exact h.mono fun e w' ⟨he, hg⟩ => ⟨he, Go.X.laid_later hr hF hg⟩
  · rw [Go.X.enters_run Tryz.func5 (by kernel_rfl) rfl _ W] at h1
    cases h1
theorem reads (W : World) {ps : List MemPlace} (hL : DataW.LaidVars Tryz.prog W Rows.scriptSpoiltUptoRow.laid ps) : Read W ∧ Lib.VarReads Tryz.prog W "paling/script.forms" Rows.laid_paling_script_forms ∧ Lib.VarReads Tryz.prog W "paling/palinglaw21.forms" Rows.laid_paling_palinglaw21_forms := by
  have h := fun n d hm => Lib.LaidVars_reads hL n d hm
  exact ⟨⟨h _ _ (by simp [Rows.scriptSpoiltUptoRow]), h _ _ (by simp [Rows.scriptSpoiltUptoRow]), h _ _ (by simp [Rows.scriptSpoiltUptoRow]), h _ _ (by simp [Rows.scriptSpoiltUptoRow]), h _ _ (by simp [Rows.scriptSpoiltUptoRow]), h _ _ (by simp [Rows.scriptSpoiltUptoRow]), h _ _ (by simp [Rows.scriptSpoiltUptoRow])⟩, h _ _ (by simp [Rows.scriptSpoiltUptoRow]), h _ _ (by simp [Rows.scriptSpoiltUptoRow])⟩
theorem laidOut : laidOutB Tryz.prog = true := by kernel_rfl
set_option maxRecDepth 100000 in
theorem lifted (os : Os) (started : os.Started) (H : Type) (enc : TypeId × Value → H) (F : Stop.Interp) :
    ReturnsInHanded {} Tryz.checked os 4 .any ((Rows.OpenSpec.upto Rows.scriptSpoiltSpec).preRow enc Tryz.prog Tryz.f4 Rows.scriptSpoiltUptoRow.domain false Rows.scriptSpoiltUptoRow.laid) (((Rows.OpenSpec.upto Rows.scriptSpoiltSpec).at F).post enc Tryz.prog Tryz.f4 false true false false) := by
  refine returnsInHanded_of_row (C := Tryz.checked) (s := Rows.OpenSpec.upto Rows.scriptSpoiltSpec) own started (by kernel_rfl) Tryz.func4
    (Go.X.witness_row_shaped (enc := enc) (C := Tryz.checked) false (wit os) #[.slice none 0 0, .int .u16 0, .int .u8 0, .string ⟨#[]⟩] (wit_os os)
      (World.shaped_of_ZipB (wit_zip os _) (wit_rest os _)) (by as_aux_lemma => kernel_rfl)
      (OpenSpec.preRow_of_cond (x := ([.nil, .lit (.int .u16 0), .lit (.int .u8 0), .lit (.string [])], [], [])) 8 (by as_aux_lemma => kernel_rfl) (by as_aux_lemma => kernel_rfl) (fun k hk => by cases hk; rfl) (by as_aux_lemma => kernel_rfl)
        (by rw [MakeChecks.laidMetH_plain _ _ _ (by as_aux_lemma => kernel_rfl)]; exact wit_met os _))) ?_
  intro W base args ds gs before hval0 hW _ hcond _ hL hsh _
  have hval : ∀ (j : Nat) t v, Tryz.f4.params[j]? = some t → args[j]? = some v → Value.okWide Tryz.prog W .any base t v := hval0
  have hbulk := hcond _ rfl
  clear hcond
  have hW' := hW
  obtain ⟨p, q, hA0, hV, rfl, _, _⟩ := hW
  have hA : DataW.TrodAll enc Tryz.prog W 0 (fun _ => true) true Tryz.f4.params.toList args.toList ds p := hA0
  rw [Tryz.params4] at hA hval
  obtain ⟨v0, v1, v2, v3, d0, d1, d2, d3, p0, p1, p2, p3, rfl, rfl, rfl, h0, h1, h2, h3⟩ := trodAll_four hA
  obtain ⟨rfl, rfl⟩ := trodVars_none hV
  obtain ⟨a, rfl, rfl, rfl, wa⟩ := open_int Tryz.underlying43 (hval 1 43 v1 rfl rfl) h1
  obtain ⟨c, rfl, rfl, rfl, wc⟩ := open_int Tryz.underlying5 (hval 2 5 v2 rfl rfl) h2
  obtain ⟨m, rfl, rfl, rfl, wm⟩ := open_string Tryz.underlying9 (hval 3 9 v3 rfl rfl) h3
  have ha : 0 ≤ a ∧ a ≤ 65535 := by simpa [Lit.wf, IntKind.min, IntKind.max, IntKind.signed, IntKind.bits] using wa
  have hcc : 0 ≤ c ∧ c ≤ 255 := by simpa [Lit.wf, IntKind.min, IntKind.max, IntKind.signed, IntKind.bits] using wc
  have hlt : ∀ x ∈ p0, x.block < W.heap.size := fun x hx => hW'.lt x (by simp [hx])
  simp only [List.append_nil] at hW'
  have hb0 : Rows.uptoBulk d0 ≤ 1048576 := by
    have h := of_decide_eq_true hbulk
    simp only [List.append_nil, Rows.uptoBulkAll, Nat.add_zero] at h
    omega
  have hm : m.size ≤ 1048576 := by
    have h := of_decide_eq_true hbulk
    simp only [List.append_nil, Rows.uptoBulkAll, Rows.uptoBulk, Nat.add_zero] at h
    rw [Lib.size_eq]
    omega
  clear hbulk hA0
  have hs : ∃ a n c, v0 = .slice a n c := okWide_slice Tryz.underlying22 (hval 0 22 v0 rfl rfl)
  obtain ⟨ls, hls, hll⟩ := open_L hb0 hs h0
  rw [MakeChecks.laidMetH_plain _ _ _ (by kernel_rfl)] at hL
  obtain ⟨ps, hLV, _, _⟩ := hL
  obtain ⟨R, RF, RF2⟩ := reads W hLV
  refine (spoilt_any W v0 ls hls hll a ha.1 ha.2 c hcc.1 hcc.2 m hm (start_calm hsh R) (start_forms RF) (start_forms21 RF2) (awake_any W hsh hLV)).mono fun e W' ⟨he, hb⟩ => ?_
  subst he
  exact ⟨_, rfl, _, _, _, [], _, [], hW', trodAll_mk1 (shut_bool Tryz.underlying4 _),
    trodAll_mk4 (WideElems.Trod_stays (P := Tryz.prog) laidOut (by as_aux_lemma => kernel_rfl) (of_decide_eq_true (by as_aux_lemma => kernel_rfl)) h0 (fun x hx => hb.same (hlt x hx)) (fun x hx => by simpa using hlt x hx)) (shut_int Tryz.underlying43 wa) (shut_int Tryz.underlying5 wc) (shut_string Tryz.underlying9 wm), rfl, hb.frame _, fun h => by cases h⟩

set_option maxRecDepth 1000000 in
theorem holds : Rows.ScriptSpoiltUptoSaid :=
  OpenClaim.holds_of_cond 4 Tryz.f4 rfl rfl rfl rfl rfl rfl rfl ⟨rfl, rfl, rfl, rfl, rfl⟩ rfl rfl rfl rfl rfl (by as_aux_lemma => kernel_rfl) Tryz.func4 closed
    (of_decide_eq_true (by kernel_rfl)) (by unfold Func.isWrapper; first | (rw [if_pos (by decide +kernel)]; kernel_rfl) | (rw [if_neg (by decide +kernel)]; exact ⟨rfl, rfl⟩))
    (fun os started H enc _ F => by rw [OpenClaim.pre_eq_preRow]; exact lifted os started H enc F)
end Go.Proofs.YtlkhkalniekaoaaGreatDoor
end
