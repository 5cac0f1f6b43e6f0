/- The walk of statements, calls and rounds, and the walk as a whole. No statement of a claim stands here. -/
import Derived.Test.YtngcbeckobfaaaaDoorVf1
set_option linter.unusedSimpArgs false
set_option linter.unusedVariables false
namespace Go.Vi
open Go

section
variable {P : Program} {G : Globs} {r : Option Nat} {nt : Nat} {κ κ' κ'' : K} {w w' w'' : World} {a a' a'' : Act} {e e' e'' : Env} {h h' h'' : H}

theorem jump_sound {j : Jump} {F : Fence} {n : Nat} {Q : Exit → Act → World → Prop} (h : Q (match j with | .ret => Exit.ret | .exit id => .exit id) a w) : (Jump.toCode j).wpIn F n P Q a w := by
  cases j with
  | ret => exact wpIn_ret h
  | exit id => exact wpIn_exit h

variable {FN : Prog} {rec : Task → Option Res}

theorem call_sound (hFN : ∀ f v, FN f = some v → chkFunc P f v = true) (hrec : ∀ t r, rec t = some r → Sound P G t r) (hkeep : ∀ t r, rec t = some r → KeepsT t r) {f : Nat} {args : List V} {res : Res}
    (hs : step G FN rec (.call f args h) = some res) : Sound P G (.call f args h) res := by
  simp only [step] at hs
  split at hs
  · cases hs
  · rename_i fn hfn
    have hck := hFN _ _ hfn
    unfold chkFunc at hck
    split at hck
    · rename_i F hF
      simp only [Bool.and_eq_true, Nat.beq_eq, Bool.not_eq_true'] at hck
      obtain ⟨⟨⟨hnt, hname⟩, hres⟩, hbody⟩ := hck
      split at hbody
      · rename_i c hc
        split at hs
        · cases hs
        · rename_i hle
          have hent : Enters P f := ⟨F, hF, by rw [hc]; rfl, hname⟩
          have main : ∀ (x : X) (e1 : Env) (h1 : H) (us : List V), (x = .normal ∨ x = .ret) → rec (.code none fn.body (bindArgs 0 args) { h with low := h.next }) = some (.exit x e1 h1) → ressOf e1 h1 fn.results = some us →
              ∀ κ w xs, Rel (chkCode P) κ h w → GR w κ G → VRL w κ args xs → CallsIn Fence.wide 0 P f ⟨xs⟩ w (Back P κ w (leave h (pack us).clasp h1).1 (leave h (pack us).clasp h1).2.1) := by
            intro x e1 h1 us hx hr hus κ w xs R hG hA
            have hk : Keeps { h with low := h.next } h1 := hkeep _ _ hr
            have hlen : xs.length ≤ F.ntmps := by
              rw [Nat.ble_eq] at hle
              rw [← hA.length, hnt]; exact hle
            refine callsIn_of_wp_marks hF hc trivial ?_
            have S0 : St P G none F.ntmps κ w { tmps := (⟨xs⟩ : Array Value) ++ Array.replicate (F.ntmps - (⟨xs⟩ : Array Value).size) undef, defers := [] } (bindArgs 0 args) { h with low := h.next } :=
              ⟨R.low _, ER.bind hA _, hG, by simp; omega, by simp⟩
            refine wpIn_mono (hrec _ _ hr c F.ntmps κ _ _ hbody S0).1 ?_
            rintro x' a' w' ⟨rfl, κ1, T⟩
            obtain ⟨new, hnew, hm⟩ := T.defs
            have hnew' : a'.defers = new := by simpa using hnew
            have hR1 := T.rel
            have hX := T.ext
            have out : LeavesInM Fence.wide 0 P F a'.tmps (Back P κ w (leave h (pack us).clasp h1).1 (leave h (pack us).clasp h1).2.1) a'.defers .returning w' := by
              rw [hnew']
              refine marks_out (U := κ1.U) (lo := w.heap.size) _ _ hm fun w2 hs2 ho2 hw2 => ?_
              have hUU : ∀ b, κ.U b → κ1.U b := fun b hb => (hX.U b hb).1
              have hlo : ∀ b, κ.U b → ¬ w.heap.size ≤ b := fun b hb => Nat.not_le.2 (R.ult b hb)
              obtain ⟨X2, R2⟩ := hR1.unframe (U := κ.U) hUU (by rw [hX.out.1]; exact R.bu) ho2 hs2 (fun c hc => hw2 c fun ⟨u1, u2⟩ => hc ⟨u1, fun u3 => hlo c u3 u2⟩)
              have E2 : ER w2 (κ1.cut κ1.n κ.U) e1 a'.tmps := fun t v ht => ((T.er t v ht).cut (T.er t v ht).top_le).mono X2
              obtain ⟨y, hy, hvy⟩ := results_sound (P := P) R2 E2 hres hus
              have hext : ∀ m, κ.n ≤ m → Ext κ w (κ1.cut m κ.U) w2 := fun m hm => by
                refine ⟨hm, hX.mu, hX.tb, fun B o hS => ⟨(hX.S B o hS).1, ((X2.S B o (hX.S B o hS).1).2).trans (hX.S B o hS).2⟩, fun b hb => ⟨hb, ?_⟩, by have := hX.size; omega, hX.out.1, ho2.1.trans hX.out.2.1, ho2.2.trans hX.out.2.2⟩
                exact (hw2 b fun ⟨_, u2⟩ => hlo b hb u2).trans (hX.U b hb).2
              have hsv := hvy.clasp
              refine ⟨y, hy, ?_⟩
              have hnn : κ.n = h.next := R.n
              unfold leave
              split
              · rename_i htop
                rw [Nat.ble_eq] at htop
                split
                · rename_i hlow
                  rw [Nat.ble_eq] at hlow
                  refine ⟨y, κ1.cut h.next κ.U, rfl, hext _ (by omega), ?_, ?_⟩
                  · have := R2.cut (h' := h) (m := h.next) (U := κ.U) (fun _ hb => hb) (by show ∀ b, b < κ1.base → κ.U b; rw [hX.out.1]; exact R.bu) rfl (fun i o hg => by
                      have hi := (R.obj i o hg).1
                      refine ⟨?_, hi, R.below hg⟩
                      rw [hk.get i (Nat.lt_of_lt_of_le hi hlow) hi]; exact hg)
                    exact this
                  · exact hsv.cut (m := h.next) (U := κ.U) htop
                · exact ⟨y, κ1.cut κ1.n κ.U, rfl, hext _ hX.n, R2.low _, hsv⟩
              · exact ⟨y, κ1.cut κ1.n κ.U, rfl, hext _ hX.n, R2.low _, hsv⟩
            rcases hx with rfl | rfl <;> exact out
          split at hs
          · rename_i hr
            split at hs
            · rename_i us hus
              cases hs
              exact ⟨hent, main .normal _ _ us (.inl rfl) hr hus⟩
            · cases hs
          · rename_i hr
            split at hs
            · rename_i us hus
              cases hs
              exact ⟨hent, main .ret _ _ us (.inr rfl) hr hus⟩
            · cases hs
          · cases hs
      · cases hbody
    · cases hck

theorem yield_sound (hrec : ∀ t r, rec t = some r → Sound P G t r) {l : Nat} {args : List V} {res : Res} (hs : step G FN rec (.yield l args h) = some res) : Sound P G (.yield l args h) res := by
  simp only [step] at hs
  split at hs
  · rename_i q hq
    split at hs
    · cases hs
    · rename_i e0 he0
      split at hs
      · rename_i e1 h1 hr1
        split at hs
        · rename_i q1 hq1
          split at hs
          · rename_i hready
            split at hs
            · rename_i x e2 h2 hr2
              split at hs
              · rename_i q2 hq2
                cases hs
                intro κ w xs R hG hA hl
                obtain ⟨L, hL, -, -, hLE, hLp, hLt, hLa, hLb⟩ := (R.obj _ _ hq).2
                obtain ⟨hlen, hE0, hsz⟩ := ER.putL hA hLE hLt he0
                have hzip : (L.params.zip (⟨xs⟩ : Array Value)).foldl (fun tmps (t, a) => tmps.setIfInBounds t a) L.tmps = (q.params.zip xs).foldl (fun tmps (t, a) => tmps.setIfInBounds t a) L.tmps := by
                  rw [← hLp, ← Array.foldl_toList]
                  simp
                refine ⟨L, hL, ?_, ?_⟩
                · rw [← hlen, ← hLp]; simp
                rw [hzip]
                refine round_fence (some (κ.mu l)) ?_
                refine roundIn_of_wpIn (F := Fence.wide) trivial ?_
                have S0 : St P G (some l) L.tmps.size κ w { tmps := (q.params.zip xs).foldl (fun tmps (t, a) => tmps.setIfInBounds t a) L.tmps, defers := [] } e0 h :=
                  ⟨R, hE0, hG, hsz, fun l' hl' => by cases hl'; exact hl⟩
                refine wpIn_mono (hrec _ _ hr1 L.assign L.tmps.size κ _ _ hLa S0).1 ?_
                rintro x' a1 w1 ⟨rfl, κ1, T1⟩
                have S1 := S0.next T1
                have hmu1 : κ1.mu l = κ.mu l := T1.ext.mu l hl
                obtain ⟨L1, hL1, hst1, hp1, hE1, hrest1⟩ := (T1.rel.obj _ _ hq1).2
                have hr1' : L1.state = .ready := by rw [hst1, hready]; rfl
                refine ⟨w1.putObj (κ1.mu l) (.loop { L1 with state := .busy }), ?_, ?_⟩
                · rw [← hmu1]; exact run_beginRound hL1 hr1'
                have hlt1 : κ1.mu l < w1.heap.size := by
                  rcases Nat.lt_or_ge (κ1.mu l) w1.heap.size with hh | hh
                  · exact hh
                  · rw [Array.getElem?_eq_none hh] at hL1; cases hL1
                obtain ⟨X2, R2⟩ := T1.rel.put_loop (o := .loop { L1 with state := .busy }) (p := .loop { q1 with state := .busy }) hq1 (.inl ⟨_, rfl⟩)
                  (fun X => ⟨{ L1 with state := .busy }, World.putObj_heap_same hlt1, rfl, hp1, hE1.mono X, hrest1⟩)
                have S2 : St P G (some l) L.tmps.size κ1 (w1.putObj (κ1.mu l) (.loop { L1 with state := .busy })) a1 e1 (h1.set l (.loop { q1 with state := .busy })) :=
                  ⟨R2, S1.er.mono X2, S1.gr.mono X2, S1.size, S1.round⟩
                have hb := (hrec _ _ hr2 L.body L.tmps.size κ1 _ _ hLb S2).1
                rw [show (some l).map κ1.mu = some (κ.mu l) by simp [hmu1]] at hb
                refine wpIn_mono hb ?_
                rintro x' a3 w3 ⟨rfl, κ3, T3⟩
                have hl1 : l < κ1.n := Nat.lt_of_lt_of_le hl T1.ext.n
                have hmu3 : κ3.mu l = κ.mu l := (T3.ext.mu l hl1).trans hmu1
                obtain ⟨L3, hL3, hst3, hp3, hE3, hrest3⟩ := (T3.rel.obj _ _ hq2).2
                have hlt3 : κ3.mu l < w3.heap.size := by
                  rcases Nat.lt_or_ge (κ3.mu l) w3.heap.size with hh | hh
                  · exact hh
                  · rw [Array.getElem?_eq_none hh] at hL3; cases hL3
                have fin : ∀ j : Option Jump, x.code = j → ∃ v w', (Instr.endRound (κ.mu l) (j.map Jump.toCode)).run P w3 = .ok v w' ∧
                    Back P κ w (.bool x.code.isNone) (h2.set l (.loop { q2 with state := if x.code.isNone then .ready else .done, pending := x.code })) (.returned v) w' := by
                  rintro j rfl
                  have hrun := run_endRound (P := P) (x.code.map Jump.toCode) hL3
                  rw [hmu3] at hrun
                  refine ⟨_, _, hrun, ?_⟩
                  obtain ⟨X4, R4⟩ := T3.rel.put_loop (o := .loop { L3 with state := if (x.code.map Jump.toCode).isNone then .ready else .done, pending := x.code.map Jump.toCode })
                    (p := .loop { q2 with state := if x.code.isNone then .ready else .done, pending := x.code }) hq2 (.inl ⟨_, rfl⟩)
                    (fun X => ⟨_, World.putObj_heap_same hlt3, by cases x <;> rfl, rfl, hE3.mono X, hrest3⟩)
                  rw [hmu3] at X4 R4
                  refine ⟨_, κ3, rfl, ((T1.ext.trans X2).trans T3.ext).trans X4, R4, ?_⟩
                  have : (x.code.map Jump.toCode).isNone = x.code.isNone := by cases x <;> rfl
                  rw [this]; exact .bool _
                cases x with
                | normal => exact fin none rfl
                | ret => exact fin (some .ret) rfl
                | exit id => exact fin (some (.exit id)) rfl
              · cases hs
            · cases hs
          · cases hs
        · cases hs
      · cases hs
  · cases hs
end
end Go.Vi
