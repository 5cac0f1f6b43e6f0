/- Cutting slices, and a row that is never written again: the plain reading against the model's. No statement of a claim stands here. -/
import Derived.Test.YtngcbeckobfaaaaDoorVz
set_option linter.unusedSimpArgs false
set_option linter.unusedVariables false
namespace Go.Vi
open Go

section
variable {P : Program} {chk : Nat → Code → VCode → Bool} {w w' : World} {κ : K} {h h' : H} {G : Globs} {e : Env} {a : Act} {o : Oper} {v : V}

theorem opt_bound (hG : GR w κ G) (hE : ER w κ e a.tmps) {x : Operand} {x' : Opd} (h : opdOk x x' = true) {u : V} (hu : x'.val G e = some u) {n : Int} (hn : ival u = some n) : ∃ j, a.eval x = .int j n := by
  obtain ⟨j, rfl⟩ := ival_some hn
  exact ⟨j, (opd_sound hG hE h hu).int_inv⟩

theorem run_bound {X : Value} {j : IntKind} {n : Int} (hX : X = .int j n) {y : Nat} {c : BoundsCode} (h0 : 0 ≤ n) (h1 : n ≤ y) : (Instr.sliceBound X y c).run P w = .ok n.toNat w := by
  simp [Instr.sliceBound, hX, asIntOf, h0, h1]

theorem do_slc (hG : GR w κ G) (hE : ER w κ e a.tmps) (R : Rel chk κ h w) {t el : TypeId} {x : Operand} {lo hi mx : Option Operand} {x' : Opd} {lo' hi' mx' : Option Opd} {k : Nat} (ho : o.op = .slice t x lo hi mx)
    (hu : P.underlying t = some (.slice el)) (hk : sizeT P el = some k) (hx : opdOk x x' = true) (h1 : optOk lo lo' = true) (h2 : optOk hi hi' = true) (h3 : optOk mx mx' = true) (hmh : (mx.isNone || hi.isSome) = true)
    (hv : ev G e h (.slc k x' lo' hi' mx') = some (v, h')) : Done P chk o a w κ h' v := by
  simp only [ev] at hv
  split at hv
  · rename_i k0 es tp hu'
    have hru := opd_sound hG hE hx hu'
    split at hv
    · rename_i hn ln hkk hhn hln
      obtain ⟨base, cap, xs, hxx, hr, hb, hc, ht⟩ := hru.slice_inv
      have hrk : RR w κ k es xs := by
        simp only [Bool.or_eq_true, decide_eq_true_eq, List.isEmpty_iff] at hkk
        rcases hkk with rfl | rfl
        · exact hr
        · cases hr; exact .nil _
      have hl := hrk.length
      split at hv
      · rename_i hbd
        obtain ⟨hb0, hb1, hb2⟩ := hbd
        -- the machine's own bounds: (l, hh, m)
        have fin : ∀ (m : Nat) (tq : Tip), hn.toNat ≤ m → m ≤ cap → (Instr.sliceBounds true es.length cap (lo.map a.eval) (hi.map a.eval) (mx.map a.eval)).run P w = .ok (ln.toNat, hn.toNat, m) w →
            (∀ base', (base' = none ↔ base = none) → TipOk κ (hn.toNat - ln.toNat) tq base' (m - ln.toNat)) → Done P chk o a w κ h (.slice k ((es.take hn.toNat).drop ln.toNat) tq) := by
          intro m tq hm1 hm2 hbs htip
          have hlen : ((es.take hn.toNat).drop ln.toNat).length = hn.toNat - ln.toNat := by simp; omega
          have hrun : (execOp a.eval o).run P w = .ok (.value (.slice (if m = ln.toNat then base else base.map (·.add (ln.toNat * k))) (hn.toNat - ln.toNat) (m - ln.toNat))) w := by
            simp only [execOp, ho, Instr.sliceAt, Sem.run_bind, run_underlying hu, Result.andThen_ok, hxx, Instr.slice, hbs, run_sizeOf_of hk, Sem.run_pure]
          refine .quiet R hrun ?_
          have hrr := (hrk.take hn.toNat).drop ln.toNat
          have := VR.slice (w := w) (κ := κ) k ((es.take hn.toNat).drop ln.toNat) tq (if m = ln.toNat then base else base.map (·.add (ln.toNat * k))) (m - ln.toNat) ((xs.take (hn.toNat * k)).drop (ln.toNat * k)) hrr ?_ (by rw [hlen]; omega) ?_
          · rwa [hlen] at this
          · rcases hb with ⟨B, q, rfl, hm⟩ | ⟨hz, rfl⟩
            · by_cases hml : m = ln.toNat
              · rw [if_pos hml]
                refine .inl ⟨B, q, rfl, ?_⟩
                have : hn.toNat = ln.toNat := by omega
                rw [this, List.drop_eq_nil_of_le (by simp; omega)]
                intro i x hx; simp at hx
              · rw [if_neg hml]
                exact .inl ⟨B, q + ln.toNat * k, by simp [add_none], (hm.take _).drop _⟩
            · have : m = 0 := by omega
              exact .inr ⟨by rw [hlen]; omega, by omega⟩
          · rw [hlen]
            refine htip _ ?_
            split
            · exact Iff.rfl
            · cases base <;> simp
        have rlo : ∀ (y : Nat) (c : BoundsCode), ln ≤ y → (match (lo.map a.eval) with | some v => Instr.sliceBound v y c | none => pure 0).run P w = .ok ln.toNat w := by
          intro y c hy
          cases lo with
          | none =>
            cases lo' with
            | none => simp only [bnd, Option.some.injEq] at hln; subst hln; simp
            | some z => simp [optOk] at h1
          | some z =>
            cases lo' with
            | none => simp [optOk] at h1
            | some z' =>
              simp only [bnd, Option.bind_eq_some_iff] at hln
              obtain ⟨p, hp, hpn⟩ := hln
              obtain ⟨j, hj⟩ := opt_bound hG hE (by simpa [optOk] using h1) hp hpn
              exact run_bound hj hb0 hy
        have rhi : ∀ (y : Nat) (c : BoundsCode), hn ≤ y → hi.isSome = true → ∃ X, hi.map a.eval = some X ∧ (Instr.sliceBound X y c).run P w = .ok hn.toNat w := by
          intro y c hy hs
          cases hi with
          | none => cases hs
          | some z =>
            cases hi' with
            | none => simp [optOk] at h2
            | some z' =>
              simp only [bnd, Option.bind_eq_some_iff] at hhn
              obtain ⟨p, hp, hpn⟩ := hhn
              obtain ⟨j, hj⟩ := opt_bound hG hE (by simpa [optOk] using h2) hp hpn
              exact ⟨_, rfl, run_bound hj (by omega) hy⟩
        have rhn : hi = none → hn = es.length := by
          intro e0; subst e0
          cases hi' with
          | none => simp only [bnd, Option.some.injEq] at hhn; exact hhn.symm
          | some z => simp [optOk] at h2
        split at hv
        · -- no third index
          simp only [Option.some.injEq, Prod.mk.injEq] at hv
          obtain ⟨rfl, rfl⟩ := hv
          have hm0 : mx = none := by cases mx <;> simp [optOk] at h3 ⊢
          subst hm0
          refine fin cap .any (by omega) (Nat.le_refl _) ?_ (fun _ _ => trivial)
          by_cases hs : hi.isSome = true
          · obtain ⟨X, hX, hr1⟩ := rhi cap .sliceAcap (by omega) hs
            have := rlo hn.toNat .sliceB (by omega)
            simp only [Instr.sliceBounds, Option.map_none, hX, Sem.run_bind, Sem.run_pure, Result.andThen_ok, if_true, hr1, Option.isSome_none, Bool.false_eq_true, if_false]
            cases lo <;> simp_all
          · have h0 : hi = none := by simpa using hs
            subst h0
            have he := rhn rfl
            have := rlo es.length .sliceB (by omega)
            have e2 : hn.toNat = es.length := by omega
            rw [e2]
            simp only [Instr.sliceBounds, Option.map_none, Sem.run_bind, Sem.run_pure, Result.andThen_ok, Option.isSome_none, Bool.false_eq_true, if_false]
            cases lo <;> simp_all
        · rename_i y
          split at hv
          · rename_i hmn
            simp only [bnd, Option.bind_eq_some_iff] at hmn
            obtain ⟨q, hq, hm⟩ := hmn
            simp only [Option.some.injEq, Prod.mk.injEq] at hv
            obtain ⟨rfl, rfl⟩ := hv
            cases mx with
            | none => simp [optOk] at h3
            | some z =>
              obtain ⟨j, hj⟩ := opt_bound hG hE (by simpa [optOk] using h3) hq hm
              have hs : hi.isSome = true := by simpa using hmh
              refine fin hn.toNat _ (Nat.le_refl _) (by omega) ?_ ?_
              · obtain ⟨X, hX, hr1⟩ := rhi hn.toNat .slice3B (by omega) hs
                have := rlo hn.toNat .slice3C (by omega)
                have hr0 := run_bound (P := P) (w := w) (y := cap) (c := .slice3Acap) hj (by omega) (by omega)
                simp only [Instr.sliceBounds, Option.map_some, hX, Sem.run_bind, Result.andThen_ok, if_true, hr0, hr1, Option.isSome_some]
                cases lo <;> simp_all
              · intro base' hbb
                cases tp with
                | nil => exact hbb.2 ht
                | shut => exact ⟨fun e0 => ht.1 (hbb.1 e0), rfl⟩
                | own id => exact ⟨fun e0 => ht.2.1 (hbb.1 e0), rfl⟩
                | full => exact rfl
                | any => exact rfl
          · cases hv
      · cases hv
    · cases hv
  · cases hv

theorem do_mkcap (hG : GR w κ G) (hE : ER w κ e a.tmps) (R : Rel chk κ h w) {t el : TypeId} {l c : Operand} {l' c' : Opd} {k : Nat} {i : TypeInfo} {zv : Value} (ho : o.op = .makeSlice t l c) (hu : P.underlying t = some (.slice el)) (hi : P.info? el = some i) (hs : i.size = k) (hk : 1 ≤ k) (hb : i.bytes ≤ 4096) (hz : i.zero = some zv) (hzs : zv.cells.size = k)
    (h1 : opdOk l l' = true) (h2 : opdOk c c' = true) (hv : ev G e h (.mkcap k l' c') = some (v, h')) : Done P chk o a w κ h' v := by
  simp only [ev, Option.bind_eq_bind, Option.bind_eq_some_iff] at hv
  obtain ⟨u, hu', p, hp, hv⟩ := hv
  split at hv
  · rename_i j1 j2 n
    split at hv
    · rename_i hb'
      simp only [Option.some.injEq, Prod.mk.injEq] at hv
      obtain ⟨rfl, rfl⟩ := hv
      have e1 := (opd_sound hG hE h1 hu').int_inv
      have e2 := (opd_sound hG hE h2 hp).int_inv
      have hrun := run_makeSlice (w := w) hu hi hs hk hb hz hzs (j1 := j1) (j2 := j2) (l := 0) (Int.le_refl 0) hb'.1 hb'.2
      let κ' : K := { κ with n := κ.n + 1, tb := fun j => if j = κ.n then (0, w.heap.size, n.toNat) else κ.tb j }
      have X : Ext κ w κ' (push w (.cells ⟨(List.replicate n.toNat zv.cells.toList).flatten⟩ el)) :=
        R.ext_push _ (Nat.le_succ _) (fun _ _ => rfl) (fun j hj => by simp [κ', Nat.ne_of_lt hj]) (fun _ _ hs => hs) (fun _ hu => hu)
      have R' : Rel chk κ' (h.new (.tip k 0)) (push w (.cells ⟨(List.replicate n.toNat zv.cells.toList).flatten⟩ el)) := by
        refine R.frame X (by simp [κ', R.n]) (Nat.le_succ _) (some h.next) (fun j hj => by rw [H.get_new, if_neg (fun e => hj (by rw [e]))]) ?_ ?_ (fun B off hs => .inl hs) (fun _ hu => hu)
        · intro j q hj hgj
          have hlt := (R.obj j q hgj).1
          exact ⟨by simp only [κ']; rw [if_neg (by rw [R.n]; omega)], fun hq => push_old w _ ((R.obj j q hgj).2.home_lt hq)⟩
        · intro j q hj hgj
          cases hj
          rw [H.get_new, if_pos rfl] at hgj
          cases hgj
          have htb : κ'.tb h.next = (0, w.heap.size, n.toNat) := by simp [κ', R.n]
          refine ⟨Nat.lt_succ_self _, ⟨by rw [htb], by rw [htb]; exact Nat.zero_le _, _, el, by rw [htb]; exact push_new w _, ?_⟩, fun _ => ⟨?_, ?_⟩, ?_⟩
          · rw [htb]; simp [hzs]
          · intro i' o' hne' hg' ho'
            simp only [home, htb]
            exact Nat.ne_of_lt ((R.obj i' o' hg').2.home_lt ho')
          · simp only [home, htb]
            exact fun hu => absurd (R.ult _ hu) (Nat.lt_irrefl _)
          · intro B off hs hf
            simp only [Foot, htb] at hf
            have := R.slt B off hs
            omega
      refine ⟨κ', _, .slice (some ⟨w.heap.size, 0, none⟩) 0 n.toNat, .inl ?_, X, R', ?_⟩
      · simp [execOp, ho, e1, e2, hrun]
      · have htb : κ'.tb h.next = (0, w.heap.size, n.toNat) := by simp [κ', R.n]
        exact .slice k [] _ _ _ [] (.nil _) (.inl ⟨_, _, rfl, fun i x hx => by simp at hx⟩) (Nat.zero_le _) ⟨by simp [κ', R.n], by simp, by rw [htb]; exact Nat.zero_le _, fun _ => by rw [htb]; exact ⟨rfl, rfl⟩⟩
    · cases hv
  · cases hv

theorem rows_of : ∀ (len : Nat) {k : Nat} {cs : List V} {xs : List Value}, VRL w κ cs xs → cs.length = len * k → RR w κ k ((List.range len).map fun i => V.agg ((cs.drop (i * k)).take k)) xs
  | 0, k, cs, xs, hl, hn => by
    have : xs = [] := List.length_eq_zero_iff.1 (by rw [← hl.length]; simpa using hn)
    subst this; exact .nil _
  | len + 1, k, cs, xs, hl, hn => by
    have hxl := hl.length
    rw [Nat.succ_mul] at hn
    have h1 : RR w κ k ((List.range len).map fun i => V.agg (((cs.drop k).drop (i * k)).take k)) (xs.drop k) := rows_of len (hl.drop k) (by simp; omega)
    rw [List.range_succ_eq_map, List.map_cons, List.map_map]
    have e1 : xs = xs.take k ++ xs.drop k := (List.take_append_drop k xs).symm
    rw [e1]
    refine .cons _ _ _ _ _ (.agg _ _ (by simpa using hl.take k)) (by simp; omega) ?_
    have e2 : ((fun i => V.agg (List.take k (List.drop (i * k) cs))) ∘ Nat.succ) = fun i => V.agg (((cs.drop k).drop (i * k)).take k) := by
      funext i
      simp only [Function.comp, List.drop_drop, Nat.succ_mul]
      rw [Nat.add_comm]
    rw [e2]
    simpa [List.drop_append] using h1
theorem rows_one : ∀ {cs : List V} {xs : List Value}, VRL w κ cs xs → cs.all V.cell1 = true → RR w κ 1 cs xs
  | _, _, .nil, _ => .nil _
  | _, _, .cons v vs x xs hv hr, hc => by
    simp only [List.all_cons, Bool.and_eq_true] at hc
    exact .cons 1 v vs [x] xs (.one _ _ (by cases v <;> simp_all [V.cell1, V.isAgg]) hv) rfl (rows_one hr hc.2)

theorem do_freeze_hs (hG : GR w κ G) (hE : ER w κ e a.tmps) (R : Rel chk κ h w) {x : Operand} {y : Opd} {k b len : Nat} {ag : Bool} (ho : o.op = .move x ∨ o.op = .assign x) (hc : opdOk x y = true)
    (hy : y.val G e = some (.hs b len)) (hv : ev G e h (.freeze k ag y) = some (v, h')) : Done P chk o a w κ h' v := by
  simp only [ev, Option.bind_eq_bind, hy, Option.bind_some] at hv
  split at hv
  · rename_i cs hg
    split at hv
    · rename_i hcond
      obtain ⟨hlen, hag, hcell⟩ := hcond
      simp only [Option.some.injEq, Prod.mk.injEq] at hv
      obtain ⟨rfl, rfl⟩ := hv
      obtain ⟨_, hxx⟩ := (opd_sound hG hE hc hy).hs_inv
      obtain ⟨xs, ty, hB, hl⟩ := (R.obj _ _ hg).2
      let κ' : K := { κ with S := fun B off => κ.S B off ∨ B = κ.mu b }
      have X : Ext κ w κ' w := ⟨Nat.le_refl _, fun _ _ => rfl, fun _ _ => .inl rfl, fun B off hs => ⟨.inl hs, rfl⟩, fun b hu => ⟨hu, rfl⟩, Nat.le_refl _, rfl, rfl, rfl⟩
      have R' : Rel chk κ' (h.set b .dead) w := by
        refine R.frame X R.n (Nat.le_refl _) (some b) (fun j hj => by rw [H.get_set, if_neg (fun e => hj (by rw [e]))]) (fun _ _ _ _ => ⟨rfl, fun _ => rfl⟩) ?_ ?_ (fun _ hu => hu)
        · intro j q hj hgj
          cases hj
          rw [H.get_set, if_pos rfl, hg] at hgj
          cases hgj
          exact ⟨(R.obj _ _ hg).1, trivial, (fun hq => by cases hq), fun _ _ _ hf => hf⟩
        · rintro B off (hs | rfl)
          · exact .inl hs
          · refine .inr ⟨(Array.getElem?_eq_some_iff.1 hB).1, fun hu => R.udis b _ hg rfl hu, fun j q hj hgj hf => ?_⟩
            exact R.homes j b q _ hgj hg (fun e => hj (by rw [e])) hf.alive rfl hf.home_eq.symm
      refine ⟨κ', w, a.eval x, .inl (by rcases ho with ho | ho <;> simp [execOp, ho]), X, R', ?_⟩
      rw [hxx]
      have hm : Mem w κ' (κ.mu b) 0 xs := by
        intro i x hx
        exact ⟨.inr rfl, by rw [cell_of hB, Nat.zero_add]; exact hx, ones_of_cell1 hl hcell x (List.mem_of_getElem? hx)⟩
      have hbase : Based w κ' (some ⟨κ.mu b, 0, none⟩) len len xs := .inl ⟨_, _, rfl, hm⟩
      cases ag with
      | true =>
        have := VR.slice k _ .any _ len xs ((rows_of len hl hlen).mono X) (by simpa using hbase) (by simp) trivial
        simpa using this
      | false =>
        have hk1 : k = 1 := by simpa using hag
        subst hk1
        have hcl : cs.length = len := by omega
        have := VR.slice 1 cs .any _ len xs ((rows_one hl hcell).mono X) (by rw [hcl]; exact hbase) (by omega) trivial
        rw [hcl] at this
        simpa using this
    · cases hv
  · cases hv
end
end Go.Vi
