/- horologelaw36.ServerPlays: the walk. -/
import Derived.Test.YthgkhllkhhnlpaaPlV
import Derived.Test.YthgkhllkhhnlpaaSvH
namespace Go.Proofs.Ythgkhllkhhnlpaa
open Go.RowKit Go.Maps

set_option maxRecDepth 20000 in
theorem loadF_cfgP (v : Value) : Instr.loadAt 26 v = loadF 26 v := rfl
set_option maxRecDepth 20000 in
theorem new_badP (C : CfgS) (hI : CfgI C) (W : World) (h : C.sv < 1 ∨ 256 < C.sv ∨ C.sl < 1 ∨ 1152921504606846976 < C.sl ∨ C.oc < 1 ∨ 10 < C.oc ∨ C.sh < 1 ∨ 64 < C.sh ∨ C.st < 0) :
    Calls Try.prog 9 #[.agg (cfC C)] W fun e w' => e = .returned (.tuple #[nilS, .int .i64 2]) ∧ Mo W w' := tnew_out C W h hI.2.2.2.2.2
set_option maxRecDepth 20000 in
theorem cut_ddsP (A : Option Addr) (n cap m : Nat) (hm : m ≤ n) (hc : n ≤ cap) : ∃ A0 A2, (∀ g off, A = some ⟨g, off, none⟩ → A0 = some ⟨g, off, none⟩) ∧ (∀ g off, A = some ⟨g, off, none⟩ → m < n → A2 = some ⟨g, off + m * 67, none⟩) ∧ (∀ w : World, (Instr.slice 22 (.slice A n cap) none (some (.int .i64 (m : Int))) none).run Try.prog w = .ok (.slice A0 m cap) w) ∧ (∀ w : World, (Instr.slice 22 (.slice A n cap) (some (.int .i64 (m : Int))) none none).run Try.prog w = .ok (.slice A2 (n - m) (cap - m)) w) := by
  have hsz : ∀ w : World, (sizeOf (Try.prog.elem 22)).run Try.prog w = .ok 67 w := fun w => by kernel_rfl
  refine ⟨if cap = 0 then A else A.map (·.add (0 * 67)), if cap = m then A else A.map (·.add (m * 67)), ?_, ?_, fun w => ?_, fun w => ?_⟩
  · rintro g off rfl
    split
    · rfl
    · show some ((⟨g, off, none⟩ : Addr).add (0 * 67)) = _
      rw [Go.WideShapes.add_plain]
      rfl
  · rintro g off rfl h
    rw [if_neg (by omega)]
    show some ((⟨g, off, none⟩ : Addr).add (m * 67)) = _
    rw [Go.WideShapes.add_plain]
  · rw [run_slice_h w 22 A n cap Try.underlying22 .i64 m (by omega) (by omega), hsz]
    rfl
  · rw [run_slice_l w 22 A n cap Try.underlying22 .i64 m (by omega) (by omega), hsz]
    rfl
set_option maxRecDepth 20000 in
theorem DdsS.low {W : World} {A A0 : Option Addr} {cap : Nat} {l : List Deed} (h : DdsS W A cap l) (m : Nat) (e : ∀ g off, A = some ⟨g, off, none⟩ → A0 = some ⟨g, off, none⟩) (hm : 0 < l.length) : DdsS W A0 cap (l.take m) := by
  refine ⟨Nat.le_trans (by rw [List.length_take]; exact Nat.min_le_right _ _) h.le, fun d hd => h.ok d (List.mem_of_mem_take hd), fun q => ?_, ?_⟩
  · rcases h.at_ with e0 | ⟨g, off, e1, _⟩
    · rw [e0] at hm; simp at hm
    · rw [e g off e1] at q; cases q
  · rcases h.at_ with e0 | ⟨g, off, e1, hc⟩
    · rw [e0] at hm; simp at hm
    · refine .inr ⟨g, off, e g off e1, fun i hi j v hv => ?_⟩
      have hi' : i < l.length := by rw [List.length_take] at hi; omega
      rw [List.getElem_take] at hv
      exact hc i hi' j v hv
set_option maxRecDepth 20000 in
theorem first_bad {a b c d e f g h i : Prop} (q : a ∨ b ∨ c ∨ d ∨ e ∨ f ∨ g ∨ h ∨ i) : a ∨ (¬a ∧ b) ∨ (¬a ∧ ¬b ∧ c) ∨ (¬a ∧ ¬b ∧ ¬c ∧ d) ∨ (¬a ∧ ¬b ∧ ¬c ∧ ¬d ∧ e) ∨ (¬a ∧ ¬b ∧ ¬c ∧ ¬d ∧ ¬e ∧ f) ∨ (¬a ∧ ¬b ∧ ¬c ∧ ¬d ∧ ¬e ∧ ¬f ∧ g) ∨ (¬a ∧ ¬b ∧ ¬c ∧ ¬d ∧ ¬e ∧ ¬f ∧ ¬g ∧ h) ∨ (¬a ∧ ¬b ∧ ¬c ∧ ¬d ∧ ¬e ∧ ¬f ∧ ¬g ∧ ¬h ∧ i) := by
  by_cases ha : a
  · exact .inl ha
  · by_cases hb : b
    · exact .inr (.inl ⟨ha, hb⟩)
    · by_cases hc : c
      · exact .inr (.inr (.inl ⟨ha, hb, hc⟩))
      · by_cases hd : d
        · exact .inr (.inr (.inr (.inl ⟨ha, hb, hc, hd⟩)))
        · by_cases he : e
          · exact .inr (.inr (.inr (.inr (.inl ⟨ha, hb, hc, hd, he⟩))))
          · by_cases hf : f
            · exact .inr (.inr (.inr (.inr (.inr (.inl ⟨ha, hb, hc, hd, he, hf⟩)))))
            · by_cases hg : g
              · exact .inr (.inr (.inr (.inr (.inr (.inr (.inl ⟨ha, hb, hc, hd, he, hf, hg⟩))))))
              · by_cases hh : h
                · exact .inr (.inr (.inr (.inr (.inr (.inr (.inr (.inl ⟨ha, hb, hc, hd, he, hf, hg, hh⟩)))))))
                · have hi : i := by
                    rcases q with q | q | q | q | q | q | q | q | q
                    · exact absurd q ha
                    · exact absurd q hb
                    · exact absurd q hc
                    · exact absurd q hd
                    · exact absurd q he
                    · exact absurd q hf
                    · exact absurd q hg
                    · exact absurd q hh
                    · exact q
                  exact .inr (.inr (.inr (.inr (.inr (.inr (.inr (.inr ⟨ha, hb, hc, hd, he, hf, hg, hh, hi⟩)))))))
set_option maxRecDepth 20000 in
theorem int_lt_no {a b : Int} (h : ¬ a < b) : decide (a < b) = false := decide_eq_false h
set_option maxRecDepth 20000 in
theorem int_lt_yes {a b : Int} (h : a < b) : decide (a < b) = true := decide_eq_true h
attribute [local go_sem] blk_cell' blk_frozen'
attribute [local go_sem ↓] loadF_addr storeF_addr loadF_cfgP loadF_do storeF_do loadF_smp storeF_smp loadF_srv storeF_srv loadF_td storeF_td neqF_adr
attribute [local go_sem] run_loadF0 run_storeF0
set_option maxRecDepth 20000 in
set_option maxHeartbeats 16000000 in
theorem plays36_bad (A : Option Addr) (cap L : Nat) (l : List Deed) (C : CfgS) (v : Value) (hv : v = .agg (cfC C)) (hI : CfgI C) (W : World) (hL : l.length = L) (h : DdsS W A cap l) (hq : greatB L C = true ∨ C.sv < 1 ∨ 256 < C.sv ∨ C.sl < 1 ∨ 1152921504606846976 < C.sl ∨ C.oc < 1 ∨ 10 < C.oc ∨ C.sh < 1 ∨ 64 < C.sh ∨ C.st < 0) :
    Calls Try.prog 3 #[.slice A L cap, v] W fun e w' => e = .returned (.bool true) ∧ Mo W w' := by
  subst hv
  have WK := Lib.hid works36_any
  have GR := Lib.hid (fun w => great_any A L cap C w)
  have HD := Lib.hid h
  have HL := Lib.hid hL
  have HI := Lib.hid hI
  by_cases gr : greatB L C = true
  · rw [gr] at GR
    clear hq h hL hI HD HL HI gr
    go_enter Try.func3, Try.ntmps3
    go_wp2_with fail
    refine (GR.out _).mono ?_
    rintro e w3 ⟨rfl, M3⟩
    have M13 : Mo W w3 := (Mor.out : Mo W _).trans M3
    clear M3
    go_wp2_with fail
    refine (WK.out _).mono ?_
    rintro e w4 ⟨rfl, M4⟩
    go_wp2_with fail
    first | go_ret | skip
    exact ⟨rfl, M13.trans ((Mor.out : Mo w3 _).trans (M4.trans Mor.out))⟩
  · have gf : greatB L C = false := by simpa using gr
    rw [gf] at GR
    have bad := hq.resolve_left gr
    clear hq
    have NB := Lib.hid (fun w => new_badP C hI w bad)
    have FB := first_bad bad
    clear bad h hL hI HD HL HI gr gf
    go_enter Try.func3, Try.ntmps3
    go_upto_region 1 with (fail)
    refine wp_name ?_
    intro w1 hw1
    have b3 : Blk w1 W.heap.size 26 (cfC C) := by rw [hw1]; infer_instance
    have M1 : Mo W w1 := by rw [hw1]; exact Mor.out
    generalize W.heap.size = g3 at *
    clear hw1
    go_wp2_with fail
    refine (GR.out _).mono ?_
    rintro e w2 ⟨rfl, M2⟩
    have M12 : Mo w1 w2 := (Mor.out : Mo w1 _).trans M2
    have b32 := M12.blk b3
    clear M2
    go_wp2_with fail
    refine (NB.out _).mono ?_
    rintro e w3 ⟨rfl, M3⟩
    have M23 : Mo w2 w3 := (Mor.out : Mo w2 _).trans M3
    have b33 := M23.blk b32
    have M13 := M12.trans M23
    clear M3 M12 M23 b3 b32 NB GR
    --@@ bad
    rcases FB with q1 | ⟨q1, q2⟩ | ⟨q1, q2, q3⟩ | ⟨q1, q2, q3, q4⟩ | ⟨q1, q2, q3, q4, q5⟩ | ⟨q1, q2, q3, q4, q5, q6⟩ | ⟨q1, q2, q3, q4, q5, q6, q7⟩ | ⟨q1, q2, q3, q4, q5, q6, q7, q8⟩ | ⟨q1, q2, q3, q4, q5, q6, q7, q8, q9⟩ <;> (
      go_wp2_with fail
      refine (WK.out _).mono ?_
      rintro e w4 ⟨rfl, M4⟩
      go_wp2_with fail
      first | go_ret | skip
      exact ⟨rfl, (M1.trans M13).trans ((Mor.out : Mo w3 _).trans (M4.trans Mor.out))⟩)
end Go.Proofs.Ythgkhllkhhnlpaa
