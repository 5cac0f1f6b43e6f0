/- Appending, making and cutting slices: the plain reading against the model's. No statement of a claim stands here. -/
import Derived.Test.YtngcbeckobfaaaaDoorVx
set_option linter.unusedSimpArgs false
set_option linter.unusedVariables false
namespace Go.Vi
open Go

section
variable {P : Program} {chk : Nat → Code → VCode → Bool} {w w' : World} {κ : K} {h h' : H} {G : Globs} {e : Env} {a : Act} {o : Oper} {v : V}

theorem Ext.of_heap (hh : w'.heap = w.heap) (ho : w'.os = w.os ∧ w'.output = w.output) : Ext κ w κ w' :=
  ⟨Nat.le_refl _, fun _ _ => rfl, fun _ _ => .inl rfl, fun B off hs => ⟨hs, by simp [World.cell?, hh]⟩, fun b hu => ⟨hu, by rw [hh]⟩, by rw [hh]; exact Nat.le_refl _, rfl, ho.1, ho.2⟩
theorem Rel.of_heap (R : Rel chk κ h w) (hh : w'.heap = w.heap) (ho : w'.os = w.os ∧ w'.output = w.output) : Rel chk κ h w' :=
  R.frame (.of_heap hh ho) R.n (Nat.le_refl _) none (fun _ _ => rfl) (fun _ _ _ _ => ⟨rfl, fun _ => by rw [hh]⟩) (fun i o hj => by cases hj) (fun _ _ hs => .inl hs) (fun _ hu => hu)

theorem firstCells_slice {k n cap : Nat} {base : Option Addr} {xs : List Value} (hb : Based w κ base cap n xs) (hl : xs.length = n * k) :
    (Builtin.firstCells k n (.slice base n cap)).run P w = .ok ⟨xs⟩ w := by
  rcases hb with ⟨B, q, rfl, hm⟩ | ⟨rfl, _⟩
  · have := run_loadCells_list (P := P) w ⟨B, q, none⟩ xs (fun j v hv => by rw [add_none]; exact (hm j v hv).2.1)
    rw [hl] at this
    simpa [Builtin.firstCells] using this
  · have : xs = [] := List.length_eq_zero_iff.1 (by simpa using hl)
    subst this
    cases base with
    | none => simp [Builtin.firstCells]
    | some A =>
      have := run_loadCells_list (P := P) w A [] (fun j v hv => by simp at hv)
      simpa [Builtin.firstCells] using this

theorem based_one {k n cap : Nat} {base : Option Addr} {xs : List Value} (hb : Based w κ base cap n xs) (x : Value) (hx : x ∈ xs) (hl : xs.length = n * k) : x.oneCell' = true := by
  rcases hb with ⟨B, q, _, hm⟩ | ⟨rfl, _⟩
  · obtain ⟨j, hj⟩ := List.mem_iff_getElem?.1 hx
    exact (hm j x hj).2.2
  · have : xs = [] := List.length_eq_zero_iff.1 (by simpa using hl)
    subst this; cases hx

theorem growBy_le (N : Nat) : ∀ (r c : Nat), c < N → Builtin.growBy N r c ≤ 2 * N + 192
  | 0, c, h => by simp [Builtin.growBy]; omega
  | r + 1, c, h => by
    simp only [Builtin.growBy]
    split
    · omega
    · by_cases h2 : c + (c + 768) / 4 < N
      · exact growBy_le N r _ h2
      · cases r with
        | zero => simp [Builtin.growBy]; omega
        | succ r => simp only [Builtin.growBy]; rw [if_pos (by omega)]; omega
theorem nextcap_le {need cap : Nat} (h : cap < need) : Builtin.nextslicecap need cap ≤ 2 * need + 192 := by
  unfold Builtin.nextslicecap
  split
  · omega
  · split
    · omega
    · exact growBy_le need 4 cap h

structure AppT (P : Program) (c : Call) (el : TypeId) (k : Nat) (i : TypeInfo) (z : Value) : Prop where
  callee : c.callee = .builtin .append
  s : ∃ t u e2, c.argTypes[0]? = some t ∧ c.argTypes[1]? = some u ∧ P.underlying t = some (.slice el) ∧ P.underlying u = some (.slice e2)
  info : P.info? el = some i
  size : i.size = k
  bytes : i.bytes ≤ 4096
  one : 1 ≤ k
  zero : i.zero = some z
  zsize : z.cells.size = k

/-- an append that fits in -/
theorem run_append_fits {c : Call} {el : TypeId} {k : Nat} {i : TypeInfo} {z : Value} (T : AppT P c el k i z) (ty : TypeId) {base : Option Addr} {n cap m cap2 : Nat} {base2 : Option Addr} {ys : List Value}
    (hf : (Builtin.firstCells k m (.slice base2 m cap2)).run P w = .ok ⟨ys⟩ w) (hle : n + m ≤ cap) {w' : World}
    (hst : ∀ A, base = some A → (storeCells (A.add (n * k)) ys).run P w = .ok () w') (hno : base = none → w' = w) :
    (Builtin.append_ c.argTypes ty #[.slice base n cap, .slice base2 m cap2]).run P w = .ok (.slice base (n + m) cap) w' := by
  obtain ⟨t, u, e2, h1, h2, h3, h4⟩ := T.s
  have hsz : (sizeOf el).run P w = .ok k w := by simp [sizeOf, typeInfo, T.info, T.size]
  cases base with
  | none =>
    obtain rfl := hno rfl
    simp [Builtin.append_, h1, h2, run_underlying h3, run_underlying h4, hsz, Builtin.lenOf, hle, hf]
  | some A =>
    have := hst A rfl
    simp [Builtin.append_, h1, h2, run_underlying h3, run_underlying h4, hsz, Builtin.lenOf, hle, hf, this]

theorem run_append_grows {c : Call} {el : TypeId} {k : Nat} {i : TypeInfo} {z : Value} (T : AppT P c el k i z) (ty : TypeId) {base : Option Addr} {n cap m cap2 : Nat} {base2 : Option Addr} {xs ys : List Value}
    (hf1 : ∀ w', w'.heap = w.heap → w'.os = w.os ∧ w'.output = w.output → (Builtin.firstCells k n (.slice base n cap)).run P w' = .ok ⟨xs⟩ w') (hf : ∀ w', w'.heap = w.heap → w'.os = w.os ∧ w'.output = w.output → (Builtin.firstCells k m (.slice base2 m cap2)).run P w' = .ok ⟨ys⟩ w') (hlt : cap < n + m) (hbig : n + m ≤ lim) :
    ∃ (w1 : World) (newCap : Nat) (zs : List Value), (w1.heap = w.heap ∧ w1.os = w.os ∧ w1.output = w.output) ∧ n + m ≤ newCap ∧ zs.length = (newCap - (n + m)) * k ∧
      (Builtin.append_ c.argTypes ty #[.slice base n cap, .slice base2 m cap2]).run P w = .ok (.slice (some ⟨w.heap.size, 0, none⟩) (n + m) newCap) (push w1 (.cells ⟨xs ++ ys ++ zs⟩ el)) := by
  obtain ⟨t, u, e2, h1, h2, h3, h4⟩ := T.s
  have hsz : ∀ w, (sizeOf el).run P w = .ok k w := fun w => by simp [sizeOf, typeInfo, T.info, T.size]
  have hti : ∀ w, (typeInfo el).run P w = .ok i w := fun w => by simp [typeInfo, T.info]
  have hzv : ∀ w, (zeroValue el).run P w = .ok z w := fun w => by simp [zeroValue, typeInfo, T.info, T.zero]
  have hno : ¬ n + m ≤ cap := by omega
  have hcap := nextcap_le hlt
  have hb : ¬ Builtin.nextslicecap (n + m) cap * i.bytes > 2 ^ 48 := by
    have h5 := T.bytes
    have h6 : Builtin.nextslicecap (n + m) cap * i.bytes ≤ (2 * lim + 192) * 4096 := Nat.mul_le_mul (by omega) h5
    have h7 : (2 * lim + 192) * 4096 ≤ 2 ^ 48 := by decide
    omega
  have hmax : ¬ (((n + m : Nat) : Int) > IntKind.i64.max ∧ i.bytes = 0) := by
    rintro ⟨h8, _⟩
    have h9 : n + m ≤ 2 ^ 24 := hbig
    have h10 : IntKind.i64.max = 9223372036854775807 := by decide
    rw [h10] at h8
    omega
  let w1 : World := { w with drawn := w.drawn + 1 }
  let newCap := n + m + w.tape w.drawn (.appendCap (n + m) cap el) % (2 ^ 63 - (n + m))
  have hch : (choose (.appendCap (n + m) cap el)).run P w = .ok newCap w1 := by
    rw [run_choose]
    simp [Question.forced, Question.cut, newCap, w1]
  refine ⟨w1, newCap, (Builtin.zeroCells z.cells (newCap - (n + m))).toList, ⟨rfl, rfl, rfl⟩, by simp only [newCap]; omega, by simp [Builtin.zeroCells, T.zsize], ?_⟩
  simp only [Builtin.append_, List.getElem?_toArray, List.getElem?_cons_zero, List.getElem?_cons_succ, h1, h2, Sem.run_bind, run_underlying h3, run_underlying h4, Result.andThen_ok, hsz, Builtin.lenOf, Sem.run_pure]
  simp only [Bool.false_eq_true, if_false, Bool.not_false, if_true, false_or, Sem.run_ite, if_neg hno, hti, Sem.run_bind, Result.andThen_ok, Sem.run_pure, if_neg hmax, if_neg hb, hch, run_askRoom, hf1 w1 rfl ⟨rfl, rfl⟩, hf w1 rfl ⟨rfl, rfl⟩, hzv]
  have e1 : (⟨xs⟩ : Array Value) ++ ⟨ys⟩ ++ Builtin.zeroCells z.cells (newCap - (n + m)) = ⟨xs ++ ys ++ (Builtin.zeroCells z.cells (newCap - (n + m))).toList⟩ := by
    apply Array.ext'; simp
  rw [e1]
  simp only [newRow, Sem.run_bind, run_newObj, Result.andThen_ok, Sem.run_pure]
  rfl

theorem opds2 {c : Call} {x y : Opd} {a : Act} (hG : GR w κ G) (hE : ER w κ e a.tmps) (hargs : opdsOk c.args.toList [x, y] = true) {u v : V} (hu : x.val G e = some u) (hv : y.val G e = some v) :
    ∃ p q, (c.args.map a.eval) = #[p, q] ∧ VR w κ u p ∧ VR w κ v q := by
  have := vals_sound (vs := [u, v]) hG hE hargs (by simp [vals, hu, hv])
  generalize hz : c.args.toList.map a.eval = zs at this
  cases this with
  | cons _ _ p _ h1 h2 =>
    cases h2 with
    | cons _ _ q _ h3 h4 =>
      cases h4
      refine ⟨p, q, ?_, h1, h3⟩
      apply Array.ext'
      rw [Array.toList_map, hz]

theorem own_tb {id k u : Nat} (R : Rel chk κ h w) (hg : h.get id = some (.tip k u)) : id < h.next ∧ (κ.tb id).1 = u ∧ u ≤ (κ.tb id).2.2 ∧ ∃ xs e, w.heap[(κ.tb id).2.1]? = some (.cells ⟨xs⟩ e (0, 0)) ∧ xs.length = (κ.tb id).2.2 * k :=
  let ⟨a, b⟩ := R.obj _ _ hg; ⟨a, b⟩

theorem do_append (hG : GR w κ G) (hE : ER w κ e a.tmps) (R : Rel chk κ h w) {c : Call} {el : TypeId} {k : Nat} {i : TypeInfo} {z : Value} {x y : Opd} (ho : o.op = .call c) (T : AppT P c el k i z)
    (hargs : opdsOk c.args.toList [x, y] = true) (hv : ev G e h (.append k x y) = some (v, h')) : Done P chk o a w κ h' v := by
  simp only [ev, Option.bind_eq_bind, Option.bind_eq_some_iff] at hv
  obtain ⟨u, hu, p, hp, hv⟩ := hv
  obtain ⟨X, Y, hab, hX, hY⟩ := opds2 hG hE hargs hu hp
  have fin : ∀ (x' : Value) (w' : World), (Builtin.append_ c.argTypes o.type #[X, Y]).run P w = .ok x' w' → (execOp a.eval o).run P w = .ok (.value x') w' := by
    intro x' w' hr
    simp [execOp, ho, resolve, T.callee, hab, invoke, builtin, hr]
  split at hv
  · rename_i k1 es t k2 ys t2
    split at hv
    · rename_i hkk
      obtain ⟨base, cap, xs, rfl, hr, hb, hc, ht⟩ := hX.slice_inv
      obtain ⟨base2, cap2, zs, rfl, hr2, hb2, hc2, _⟩ := hY.slice_inv
      have hrk : RR w κ k es xs := by
        rcases hkk.1 with rfl | rfl
        · exact hr
        · cases hr; exact .nil _
      have hrk2 : RR w κ k ys zs := by
        rcases hkk.2 with rfl | rfl
        · exact hr2
        · cases hr2; exact .nil _
      have hl1 := hrk.length
      have hl2 := hrk2.length
      split at hv
      · -- nothing is appended
        simp only [Option.some.injEq, Prod.mk.injEq] at hv
        obtain ⟨rfl, rfl⟩ := hv
        cases hrk2
        have := run_append_fits T o.type (n := es.length) (cap := cap) (base := base) (m := 0) (ys := []) (w := w) (w' := w) (firstCells_slice (k := k) (by simpa using hb2) (by simp)) (by simpa using hc)
          (by intro A _; simp [storeCells]) (fun _ => rfl)
        exact .quiet R (fin _ _ this) (.slice k es t base cap xs hrk hb hc ht)
      · rename_i hne
        split at hv
        · rename_i hbig
          have hyl : 1 ≤ ys.length := by cases ys with | nil => exact absurd rfl hne | cons _ _ => simp
          -- a new block takes all: the id stands for it from now on
          have grow : cap < es.length + ys.length → ∀ (id : Nat) (hH : H) (n' : Nat), hH.get id = some (.tip k (es.length + ys.length)) → (∀ j, j ≠ id → hH.get j = h.get j) → hH.next = n' → h.next ≤ n' → id < n' →
              (h.get id = none ∨ ∃ u, h.get id = some (.tip k u)) → (id < κ.n → (κ.tb id).1 < es.length + ys.length) →
              Done P chk o a w κ hH (.slice k (es ++ ys) (.own id)) := by
            intro hlt id hH n' hg1 hg2 hn1 hn2 hid hold htb
            obtain ⟨w1, newCap, rest, ⟨hw1, hout⟩, hnc, hrl, hrun⟩ := run_append_grows T o.type (n := es.length) (cap := cap) (base := base) (m := ys.length) (base2 := base2) (cap2 := cap2) (xs := xs) (ys := zs) (w := w)
              (fun w' hw' ho' => firstCells_slice (k := k) (Based.mono (Ext.of_heap hw' ho') hb) hl1) (fun w' hw' ho' => firstCells_slice (k := k) (Based.mono (Ext.of_heap hw' ho') hb2) hl2) hlt hbig
            have R1 := R.of_heap hw1 hout
            have X1 : Ext κ w κ w1 := .of_heap hw1 hout
            let κ' : K := { κ with n := n', tb := fun j => if j = id then (es.length + ys.length, w.heap.size, newCap) else κ.tb j, S := fun B off => κ.S B off ∨ (B = w.heap.size ∧ off < (es.length + ys.length) * k) }
            have hsz : w1.heap.size = w.heap.size := by rw [hw1]
            have hold' : ∀ b, b < w.heap.size → (push w1 (.cells ⟨xs ++ zs ++ rest⟩ el)).heap[b]? = w.heap[b]? := fun b hb => by rw [push_old _ _ (by rw [hsz]; exact hb), hw1]
            have hnew : (push w1 (.cells ⟨xs ++ zs ++ rest⟩ el)).heap[w.heap.size]? = some (.cells ⟨xs ++ zs ++ rest⟩ el) := by rw [← hsz]; exact push_new _ _
            have X2 : Ext κ w κ' (push w1 (.cells ⟨xs ++ zs ++ rest⟩ el)) := by
              refine ⟨by rw [R.n]; exact hn2, fun _ _ => rfl, fun j hj => ?_, fun B off hs => ⟨.inl hs, cell_of_heap (hold' B (R.slt B off hs)) off⟩, fun b hub => ⟨hub, hold' b (R.ult b hub)⟩, by rw [push_size, hsz]; omega, rfl, hout.1, hout.2⟩
              by_cases hj' : j = id
              · subst hj'
                right
                simp only [κ', if_true]
                exact htb hj
              · left; simp [κ', hj']
            have hfull : (xs ++ zs ++ rest).length = newCap * k := by
              simp only [List.length_append, hl1, hl2, hrl, ← Nat.add_mul]
              congr 1; omega
            have R2 : Rel chk κ' hH (push w1 (.cells ⟨xs ++ zs ++ rest⟩ el)) := by
              refine R.frame X2 (by simp [κ', hn1]) (by rw [hn1]; exact hn2) (some id) (fun j hj => hg2 j (fun e => hj (by rw [e]))) ?_ ?_ ?_ (fun _ hu => hu)
              · intro j q hj hgj
                refine ⟨by simp [κ', show j ≠ id from fun e => hj (by rw [e])], fun hq => hold' _ ((R.obj j q hgj).2.home_lt hq)⟩
              · intro j q hj hgj
                cases hj
                rw [hg1] at hgj
                cases hgj
                refine ⟨by rw [hn1]; exact hid, ⟨by simp [κ'], by simp [κ']; exact hnc, _, el, by simp only [κ', if_true]; exact hnew, by simp only [κ', if_true]; exact hfull⟩, fun _ => ⟨?_, ?_⟩, ?_⟩
                · intro i' o' hne' hg' ho'
                  simp only [home, κ', if_true]
                  exact Nat.ne_of_lt ((R.obj i' o' hg').2.home_lt ho')
                · simp only [home, κ', if_true]
                  exact fun hu => absurd (R.ult _ hu) (Nat.lt_irrefl _)
                · rintro B off (hs | ⟨rfl, hs⟩) hf
                  · simp only [Foot, κ', if_true] at hf
                    have := R.slt B off hs
                    omega
                  · simp only [Foot, κ', if_true] at hf
                    omega
              · rintro B off (hs | ⟨rfl, hs⟩)
                · exact .inl hs
                · refine .inr ⟨by rw [push_size, hsz]; omega, fun hu => absurd (R.ult _ hu) (Nat.lt_irrefl _), fun j q hj hgj hf => ?_⟩
                  have := (R.obj j q hgj).2.home_lt hf.alive
                  rw [← hf.home_eq] at this
                  exact Nat.lt_irrefl _ this
            refine ⟨κ', _, _, .inl (fin _ _ hrun), X2, R2, ?_⟩
            have hval : VR (push w1 (.cells ⟨xs ++ zs ++ rest⟩ el)) κ' (.slice k (es ++ ys) (.own id)) (.slice (some ⟨w.heap.size, 0, none⟩) (es ++ ys).length newCap) := by
              refine .slice k _ _ _ _ (xs ++ zs) ((hrk.append hrk2).mono X2) (.inl ⟨_, _, rfl, ?_⟩) (by simp; omega) ⟨hid, by simp, by simp [κ'], fun _ => by simp [κ']⟩
              intro j q hj
              have hjl : j < (xs ++ zs).length := (List.getElem?_eq_some_iff.1 hj).1
              refine ⟨.inr ⟨rfl, ?_⟩, ?_, ?_⟩
              rotate_left 2
              · rcases List.mem_append.1 (List.mem_of_getElem? hj) with hq | hq
                · exact based_one hb q hq hl1
                · exact based_one hb2 q hq hl2
              · simp only [List.length_append, hl1, hl2, ← Nat.add_mul] at hjl; omega
              · rw [cell_of hnew, Nat.zero_add, List.getElem?_append_left hjl]; exact hj
            rw [List.length_append] at hval
            exact hval
          have fresh : (some (V.slice k (es ++ ys) (.own h.next), h.new (.tip k (es.length + ys.length))) = some (v, h')) → cap = es.length → Done P chk o a w κ h' v := by
            intro hv hcap
            simp only [Option.some.injEq, Prod.mk.injEq] at hv
            obtain ⟨rfl, rfl⟩ := hv
            refine grow (by omega) h.next _ (h.next + 1) (by rw [H.get_new, if_pos rfl]) (fun j hj => by rw [H.get_new, if_neg hj]) rfl (Nat.le_succ _) (Nat.lt_succ_self _) (.inl ?_) (fun hlt => by rw [R.n] at hlt; omega)
            cases hgg : h.get h.next with
            | none => rfl
            | some q => exact absurd (R.obj _ _ hgg).1 (Nat.lt_irrefl _)
          split at hv
          · cases hv
          · rename_i id
            split at hv
            · rename_i k0 u0 hg
              split at hv
              · rename_i hcond
                obtain ⟨rfl, rfl⟩ := hcond
                simp only [Option.some.injEq, Prod.mk.injEq] at hv
                obtain ⟨rfl, rfl⟩ := hv
                obtain ⟨hid, htb1, htb2, bs, be, hblk, hbl⟩ := own_tb R hg
                obtain ⟨_, _, _, htip⟩ := ht
                obtain ⟨rfl, rfl⟩ := htip htb1.symm
                by_cases hfit : es.length + ys.length ≤ (κ.tb id).2.2
                · -- in place
                  have hst := run_storeCells_at P (κ.tb id).2.1 (es.length * k0) be zs 0 ⟨bs⟩ w hblk (by simp only [Nat.add_zero, List.size_toArray]; rw [hl2, hbl, ← Nat.add_mul]; exact Nat.mul_le_mul_right _ hfit) (fun x hx => based_one hb2 x hx hl2)
                  simp only [Nat.add_zero] at hst
                  have hrun := run_append_fits T o.type (n := es.length) (cap := (κ.tb id).2.2) (base := some ⟨(κ.tb id).2.1, 0, none⟩) (m := ys.length) (base2 := base2) (cap2 := cap2) (ys := zs) (w := w) (firstCells_slice (k := k0) hb2 hl2) hfit
                    (by intro A hA; cases hA; rw [add_none, Nat.zero_add]; exact hst) (fun e => by cases e)
                  generalize hw' : w.setRow (κ.tb id).2.1 (List.take (es.length * k0) bs ++ zs ++ List.drop (es.length * k0 + zs.length) bs).toArray = w' at hst hrun
                  have hother : ∀ b, b ≠ (κ.tb id).2.1 → w'.heap[b]? = w.heap[b]? := fun b hb => by rw [← hw']; exact setRow_other w _ _ hb
                  have hthis : w'.heap[(κ.tb id).2.1]? = some (.cells ⟨List.take (es.length * k0) bs ++ zs ++ List.drop (es.length * k0 + zs.length) bs⟩ be (0, 0)) := by rw [← hw']; exact setRow_heap w _ _ _ _ _ hblk
                  have hsize : w'.heap.size = w.heap.size := by rw [← hw']; exact setRow_size w _ _
                  have hmulle : es.length * k0 + ys.length * k0 ≤ (κ.tb id).2.2 * k0 := by rw [← Nat.add_mul]; exact Nat.mul_le_mul_right _ hfit
                  have hpre : (List.take (es.length * k0) bs).length = es.length * k0 := by simp; omega
                  have hcellold : ∀ off, off < es.length * k0 → w'.cell? ⟨(κ.tb id).2.1, off, none⟩ = w.cell? ⟨(κ.tb id).2.1, off, none⟩ := by
                    intro off hoff
                    rw [cell_of hthis, cell_of hblk, List.append_assoc, List.getElem?_append_left (by omega), List.getElem?_take, if_pos hoff]
                  let κ' : K := { κ with tb := fun j => if j = id then (es.length + ys.length, (κ.tb id).2.1, (κ.tb id).2.2) else κ.tb j, S := fun B off => κ.S B off ∨ (B = (κ.tb id).2.1 ∧ off < (es.length + ys.length) * k0) }
                  have hSblk : ∀ off, κ.S (κ.tb id).2.1 off → off < es.length * k0 := by
                    intro off hs
                    have := R.sdis id _ hg _ off hs
                    simp only [Foot, true_and] at this
                    omega
                  have X : Ext κ w κ' w' := by
                    refine ⟨Nat.le_refl _, fun _ _ => rfl, fun j hj => ?_, fun B off hs => ⟨.inl hs, ?_⟩, fun b hub => ⟨hub, hother b (fun e => R.udis id _ hg rfl (by simp only [home]; rwa [← e]))⟩, by omega, rfl, by rw [← hw']; rfl, by rw [← hw']; rfl⟩
                    · by_cases hj' : j = id
                      · subst hj'; right; simp only [κ', if_true]; omega
                      · left; simp [κ', hj']
                    · by_cases hB : B = (κ.tb id).2.1
                      · subst hB; exact hcellold off (hSblk off hs)
                      · exact cell_of_heap (hother B hB) off
                  have hlen' : (List.take (es.length * k0) bs ++ zs ++ List.drop (es.length * k0 + zs.length) bs).length = (κ.tb id).2.2 * k0 := by
                    simp only [List.length_append, hpre, List.length_drop, hl2, hbl]; omega
                  have R' : Rel chk κ' (h.set id (.tip k0 (es.length + ys.length))) w' := by
                    refine R.frame X R.n (Nat.le_refl _) (some id) (fun j hj => by rw [H.get_set, if_neg (fun e => hj (by rw [e]))]) ?_ ?_ ?_ (fun _ hu => hu)
                    · intro j q hj hgj
                      have hji : j ≠ id := fun e => hj (by rw [e])
                      exact ⟨by simp [κ', hji], fun hq => hother _ (R.homes j id q _ hgj hg hji hq rfl)⟩
                    · intro j q hj hgj
                      cases hj
                      rw [H.get_set, if_pos rfl, hg] at hgj
                      cases hgj
                      refine ⟨hid, ⟨by simp [κ'], by simp only [κ', if_true]; exact hfit, _, be, by simp only [κ', if_true]; exact hthis, by simp only [κ', if_true]; exact hlen'⟩, fun _ => ⟨?_, ?_⟩, ?_⟩
                      · intro i' o' hne' hg' ho'
                        simp only [home, κ', if_true]
                        exact R.homes i' id o' _ hg' hg hne' ho' rfl
                      · simp only [home, κ', if_true]
                        exact R.udis id _ hg rfl
                      · rintro B off (hs | ⟨rfl, hs⟩) hf
                        · simp only [Foot, κ', if_true] at hf
                          obtain ⟨rfl, hf⟩ := hf
                          have := hSblk off hs
                          have := Nat.mul_le_mul_right k0 (Nat.le_add_right es.length ys.length)
                          omega
                        · simp only [Foot, κ', if_true] at hf
                          omega
                    · rintro B off (hs | ⟨rfl, hs⟩)
                      · exact .inl hs
                      · refine .inr ⟨by rw [hsize]; exact (R.obj _ _ hg).2.home_lt (o := .tip k0 es.length) rfl, fun hu => R.udis id _ hg rfl hu, fun j q hj hgj hf => ?_⟩
                        exact R.homes j id q _ hgj hg (fun e => hj (by rw [e])) hf.alive rfl hf.home_eq.symm
                  refine ⟨κ', w', _, .inl (fin _ _ hrun), X, R', ?_⟩
                  have hval : VR w' κ' (.slice k0 (es ++ ys) (.own id)) (.slice (some ⟨(κ.tb id).2.1, 0, none⟩) (es ++ ys).length (κ.tb id).2.2) := by
                    refine .slice k0 _ _ _ _ (xs ++ zs) ((hrk.append hrk2).mono X) (.inl ⟨_, _, rfl, ?_⟩) (by simp; omega) ⟨by rw [show κ'.n = κ.n from rfl, R.n]; exact hid, by simp, by simp [κ'], fun _ => by simp [κ']⟩
                    intro j q hj
                    have hjl : j < (xs ++ zs).length := (List.getElem?_eq_some_iff.1 hj).1
                    simp only [List.length_append] at hjl
                    rw [Nat.zero_add]
                    by_cases hjx : j < xs.length
                    · rw [List.getElem?_append_left hjx] at hj
                      rcases hb with ⟨B, q0, hB, hm⟩ | ⟨hz, _⟩
                      · cases hB
                        have := hm.mono X j q hj
                        rwa [Nat.zero_add] at this
                      · rw [hl1, hz] at hjx; simp at hjx
                    · refine ⟨.inr ⟨rfl, by rw [Nat.add_mul]; omega⟩, ?_, based_one hb2 q (List.mem_of_getElem? (by rw [List.getElem?_append_right (by omega)] at hj; exact hj)) hl2⟩
                      rw [cell_of hthis, List.append_assoc, List.getElem?_append_right (by omega), hpre, List.getElem?_append_left (by omega)]
                      rw [List.getElem?_append_right (by omega), hl1] at hj
                      exact hj
                  rw [List.length_append] at hval
                  exact hval
                · refine grow (by omega) id _ h.next (by rw [H.get_set, if_pos rfl, hg]; rfl) (fun j hj => by rw [H.get_set, if_neg hj]) rfl (Nat.le_refl _) hid (.inr ⟨_, hg⟩) (fun _ => by omega)
              · cases hv
            · cases hv
          · rename_i hna hno
            refine fresh hv ?_
            cases t with
            | nil =>
              simp only [TipOk] at ht; subst ht
              rcases hb with ⟨B, q, e1, _⟩ | ⟨e1, e2⟩
              · cases e1
              · omega
            | shut => exact ht.2
            | full => exact ht
            | any => exact absurd rfl hna
            | own id => exact absurd rfl (hno id)
        · cases hv
    · cases hv
  · cases hv
end
end Go.Vi
