import Derived.Test.YtggobapgdflchaaEvMem4
set_option linter.unusedVariables false
namespace Go.Ev
open Go.RowKit
variable {P : Program} {E : Env} {I I' : Im} {w w' : World} {μ μ' : List Nat} {c : Ctx} {ρ : Nat → Rm} {s : St} {a : Act} {o : Oper} {T : Type} {bs bs' : List AV}

theorem run_append_zero {U e ty : Nat} {i : TypeInfo} {base b2 : Option Addr} {n cap c2 : Nat} (hU : P.underlying U = some (.slice e)) (hi : P.info? e = some i) (hc : n ≤ cap) :
    (Builtin.append_ #[U, U] ty #[.slice base n cap, .slice b2 0 c2]).run P w = .ok (.slice base n cap) w := by
  have h0 : ∀ w : World, (Builtin.firstCells i.size 0 (.slice b2 0 c2)).run P w = .ok #[] w := by
    intro w
    cases b2 with
    | none => rfl
    | some b =>
      unfold Builtin.firstCells loadCells
      simp [loadCellsFrom]
  have hst : ∀ (ad : Addr) (w : World), (storeCells ad []).run P w = .ok () w := fun _ _ => rfl
  cases base with
  | none => simp [Builtin.append_, run_underlying hU, sizeOf, typeInfo, hi, Builtin.lenOf, hc, h0]
  | some b => simp [Builtin.append_, run_underlying hU, sizeOf, typeInfo, hi, Builtin.lenOf, hc, h0, hst]

theorem run_append_in {t ty e : Nat} {i : TypeInfo} (ht : P.underlying t = some (.slice e)) (hi : P.info? e = some i)
    {g sLen sCap et : Nat} {cur : Array Value} (hg : w.heap[g]? = some (.cells cur et (0, 0)))
    {a : Addr} {m c : Nat} {news : List Value} (hl : news.length = m * i.size) (hnews : ∀ (j : Nat) u, news[j]? = some u → w.cell? (a.add j) = some u) (h1 : ∀ u, u ∈ news → u.oneCell' = true)
    (hroom : sLen + m ≤ sCap) (hfit : sLen * i.size + news.length ≤ cur.size) :
    (Builtin.append_ #[t, t] ty #[.slice (some ⟨g, 0, none⟩) sLen sCap, .slice (some a) m c]).run P w =
      .ok (.slice (some ⟨g, 0, none⟩) (sLen + m) sCap) (w.setRow g (cur.toList.take (sLen * i.size) ++ news ++ cur.toList.drop (sLen * i.size + news.length)).toArray) := by
  have hf := run_firstCells_some (P := P) w i.size m a m c news hl hnews
  have hst := run_storeCells_at P g (sLen * i.size) et news 0 cur w hg (by simpa using hfit) h1
  simp only [Nat.add_zero] at hst
  simp [Builtin.append_, run_underlying ht, sizeOf, typeInfo, hi, Builtin.lenOf, hroom, hf, Addr.add_lit, hst]

/-- a block that is nobody's box is written -/
theorem MemI.fill (H : MemI c I μ bs w) {g : Nat} {cur arr : Array Value} {et : Nat} (hg : w.heap[g]? = some (.cells cur et (0, 0))) (hb : c.w0.heap.size ≤ g) (hm : g ∉ μ) (hF : ¬ c.F g)
    (hI : ∀ o, I g o → arr[o]? = cur[o]?) (N : Im) (hN : ∀ b o, N b o → b = g) :
    MemI c (fun b o => I b o ∨ N b o) μ bs (w.setRow g arr) ∧ Grow I w μ (fun b o => I b o ∨ N b o) (w.setRow g arr) μ := by
  have gg := grow_setRow (I := I) (μ := μ) (arr := arr) hg hI N
  refine ⟨⟨below_setRow H.below hb, H.base, H.grow.trans gg, by simpa using H.sizeS, H.blen, ?_, H.nodup, by simpa using H.mu, H.munew, ?_, ?_⟩, gg⟩
  · intro i v b hv hmb
    have hne : b ≠ g := fun e => hm (by rw [← e]; exact List.mem_of_getElem? hmb)
    rcases H.boxes i v b hv hmb with h | ⟨cs, et', h1, h2, h3⟩
    · exact .inl h
    · refine .inr ⟨cs, et', by rw [setRow_other _ _ _ _ hne]; exact h1, h2.grow gg, ?_⟩
      rintro o (k | k)
      · exact h3 o k
      · exact hne (hN _ _ k)
  · rintro b o (k | k)
    · simpa using H.imlt b o k
    · rw [hN _ _ k]; simpa using lt_of_get hg
  · intro b hb'
    obtain ⟨h1, h2, h3, h4⟩ := H.fr b hb'
    have hne : b ≠ g := fun e => hF (by rw [← e]; exact hb')
    refine ⟨h1, by rw [setRow_other _ _ _ _ hne]; exact h2, h3, ?_⟩
    rintro o (k | k)
    · exact h4 o k
    · exact absurd (hN _ _ k) hne

/-- what an append comes to -/
theorem append_out (hE : EnvOK P E) (H : RelI c I μ ρ s a w) {U ty n : Nat} {t : Ty} (hU : E.ty U = some (.sl t)) (hlim : look E.lim U = some n) (hcs : 0 < t.csize) (hz : t.zero.isSome = true) (hck : t.cellok = true) {l m : List t.den} {u v : Value}
    (hl : R I w μ (.sl t) false l [u]) (hm : R I w μ (.sl t) false m [v]) (hfit : (l.length + m.length) * n ≤ 140737488355328)
    {r : Rm} (hu : u = .slice r.a r.n r.cap) (hrs : r.sz = t.csize) (hroom : Room c.w0.heap.size c.F I μ w r) (X : Nat → Prop) (hX : ∀ q, Live s q → X q → Apart r (ρ q)) :
    ∃ u' w' I' r', (Builtin.append_ #[U, U] ty #[u, v]).run P w = .ok u' w' ∧ RelX X c I' μ ρ s a w' ∧ R I' w' μ (.sl t) false (app l m) [u'] ∧ r'.sz = t.csize ∧ u' = .slice r'.a r'.n r'.cap ∧
      Room c.w0.heap.size c.F I' μ w' r' ∧ ∀ q, Live s q → X q → Apart r' (ρ q) := by
  obtain ⟨e, hue, hte⟩ := (hE.tys _ _ hU).sl t rfl
  have hty := hE.tys e _ hte
  obtain ⟨ie, zv, hie, hse, hzv, _, hzero⟩ := hty.info
  obtain ⟨ie', hie', hby, hpos⟩ := hE.lims _ _ _ hlim hue
  rw [hie] at hie'; cases hie'
  obtain ⟨z, hzz⟩ := Option.isSome_iff_exists.1 hz
  have hnt : t.isTop = false := by cases t <;> first | rfl | cases hzz
  have hzc := R_okcells (hzero z hzz I w μ) hty.ok hnt
  have hzs : zv.cells.size = t.csize := by have := R.size _ _ _ hzc; rwa [Array.length_toList] at this
  obtain ⟨ad, n1, cap, cl, e1, hn1, hcap, hal, hno, hcl⟩ := hl
  obtain ⟨bd, n2, cap2, cm, e2, hn2, hcap2, ham, hno2, hcm⟩ := hm
  have e1 : u = .slice ad n1 cap := by injection e1
  have e2 : v = .slice bd n2 cap2 := by injection e2
  rw [e1] at hu
  injection hu with a1 a2 a3
  have hlcl : cl.length = n1 * t.csize := by rw [hn1]; exact RAll_size t _ _ hal
  have hlcm : cm.length = n2 * t.csize := by rw [hn2]; exact RAll_size t _ _ ham
  have hones := RAll_ones t hck _ _ ham
  have hfit : (n1 + n2) * n ≤ 140737488355328 := by rw [hn1, hn2]; exact hfit
  have hsmall : n1 + n2 ≤ 140737488355328 := Nat.le_trans (Nat.le_mul_of_pos_right _ hpos) hfit
  have happ : (app l m).length = n1 + n2 := by unfold app; rw [List.length_append, hn1, hn2]
  by_cases h0 : n2 = 0
  · -- nothing comes
    subst h0
    have hm0 : m = [] := List.eq_nil_of_length_eq_zero hn2.symm
    refine ⟨u, w, I, r, ?_, H.toX X, ?_, hrs, by rw [e1, a1, a2, a3], hroom, hX⟩
    · rw [e1, e2]; exact run_append_zero hue hie hcap
    · have : app l m = l := by unfold app; rw [hm0, List.append_nil]
      rw [this]
      exact ⟨ad, n1, cap, cl, by rw [e1], hn1, hcap, hal, hno, hcl⟩
  · -- the source is there
    cases bd with
    | none => have := hno2 rfl; omega
    | some bd =>
    have hsrc : ∀ (j : Nat) x, cm[j]? = some x → w.cell? (bd.add j) = some x := fun j x hj => (hcm bd rfl j x hj).1
    by_cases hin : n1 + n2 ≤ cap
    · -- in place
      have hne : r.n ≠ r.cap := by rw [← a2, ← a3]; omega
      rcases hroom with h | ⟨ad', cur, et, k1, k2, k3, k4, k5, k6, k7, k8, k9⟩
      · exact absurd h hne
      rw [← a1] at k1
      obtain ⟨g, hgad⟩ : ∃ g, ad' = ⟨g, 0, none⟩ := by
        obtain ⟨x, y, z⟩ := ad'; simp only at k2 k3; subst k2; subst k3; exact ⟨x, rfl⟩
      subst hgad
      subst k1
      simp only [Nat.zero_add] at k4 k5 k6 k7 k8 k9
      rw [hrs, ← a3] at k5
      rw [hrs, ← a2] at k9
      have hsz1 : n1 * t.csize + cm.length ≤ cur.size := by
        rw [hlcm, ← Nat.add_mul]; exact Nat.le_trans (Nat.mul_le_mul_right _ hin) k5
      have hrun := run_append_in (ty := ty) hue hie k4 (a := bd) (c := cap2) (by rw [hse]; exact hlcm) hsrc hones hin (by rw [hse]; exact hsz1)
      rw [hse] at hrun
      have harr : ∀ o, o < n1 * t.csize → (cur.toList.take (n1 * t.csize) ++ cm ++ cur.toList.drop (n1 * t.csize + cm.length)).toArray[o]? = cur[o]? := by
        intro o ho
        rw [List.getElem?_toArray, List.append_assoc, List.getElem?_append_left (by rw [List.length_take, Array.length_toList]; omega), List.getElem?_take, if_pos ho, Array.getElem?_toList]
      have hclcur : ∀ (j : Nat) x, cl[j]? = some x → cur[j]? = some x := by
        intro j x hj
        have := (hcl _ rfl j x hj).1
        rw [add_lit] at this
        simp only [World.cell?, k4, Nat.zero_add] at this
        simpa using this
      have hIlt : ∀ o, I g o → o < n1 * t.csize := fun o ho => by
        rcases Nat.lt_or_ge o (n1 * t.csize) with h | h
        · exact h
        · exact absurd ho (k9 o h)
      obtain ⟨m1, m2⟩ := H.mem.fill (arr := (cur.toList.take (n1 * t.csize) ++ cm ++ cur.toList.drop (n1 * t.csize + cm.length)).toArray) k4 k6 k7 k8 (fun o ho => harr o (hIlt o ho))
        (fun b o => b = g ∧ o < (n1 + n2) * t.csize) (fun b o h => h.1)
      have hcs2 : cellsAt (fun b o => I b o ∨ (b = g ∧ o < (n1 + n2) * t.csize)) (w.setRow g (cur.toList.take (n1 * t.csize) ++ cm ++ cur.toList.drop (n1 * t.csize + cm.length)).toArray) ⟨g, 0, none⟩ (cl ++ cm) := by
        intro j x hj
        rw [add_lit]
        have hjlt : j < cl.length + cm.length := by have := (List.getElem?_eq_some_iff.1 hj).1; rwa [List.length_append] at this
        refine ⟨?_, .inr ⟨rfl, by show 0 + j < _; rw [Nat.add_mul]; omega⟩⟩
        simp only [World.cell?, setRow_heap _ _ _ _ _ _ k4, Nat.zero_add, Option.isSome_none, Bool.false_eq_true, if_false]
        by_cases hj1 : j < cl.length
        · rw [harr j (by omega)]
          rw [List.getElem?_append_left hj1] at hj
          exact hclcur j x hj
        · rw [List.getElem?_append_right (by omega)] at hj
          have htk : (cur.toList.take (n1 * t.csize)).length = cl.length := by rw [List.length_take, Array.length_toList]; omega
          rw [List.getElem?_toArray, List.append_assoc, List.getElem?_append_right (by omega), htk, List.getElem?_append_left (by omega)]
          exact hj
      refine ⟨_, _, _, ⟨some ⟨g, 0, none⟩, n1 + n2, cap, t.csize⟩, by rw [e1, e2]; exact hrun, RelX.step H m1 m2 ?_, ⟨some ⟨g, 0, none⟩, n1 + n2, cap, cl ++ cm, rfl, happ.symm, hin, ?_, (fun h => by cases h), (fun ad had => by cases had; exact hcs2)⟩, rfl, rfl, ?_, ?_⟩
      · intro q hq hXq
        refine (H.rooms q hq trivial).setRow _ (fun b o h => h.1) ?_
        intro x hx hnq e
        rcases hX q hq hXq with h | h | h
        · exact hne h
        · exact hnq h
        · exact h ⟨g, 0, none⟩ x a1.symm hx e.symm
      · unfold app
        exact RAll_append _ _ _ _ (RAll.mono (fun (x : t.den) cs hx => hx.grow m2) _ _ hal) (RAll.mono (fun (x : t.den) cs hx => hx.grow m2) _ _ ham)
      · refine .inr ⟨⟨g, 0, none⟩, _, et, rfl, rfl, rfl, setRow_heap _ _ _ _ _ _ k4, ?_, k6, k7, k8, ?_⟩
        · show 0 + cap * t.csize ≤ _
          have : (cur.toList.take (n1 * t.csize) ++ cm ++ cur.toList.drop (n1 * t.csize + cm.length)).toArray.size = cur.size := by
            rw [List.size_toArray, List.length_append, List.length_append, List.length_take, List.length_drop, Array.length_toList]; omega
          rw [this]; omega
        · show ∀ o, 0 + (n1 + n2) * t.csize ≤ o → _
          rintro o ho (k | k)
          · exact k9 o (by rw [Nat.add_mul] at ho; omega) k
          · omega
      · intro q hq hXq
        rcases hX q hq hXq with h | h | h
        · exact absurd h hne
        · exact .inr (.inl h)
        · exact .inr (.inr fun x y hx hy => by cases hx; exact h _ y a1.symm hy)
    · -- a new row
      have hnew : ∃ newcap, n1 + n2 ≤ newcap ∧ (Builtin.append_ #[U, U] ty #[u, v]).run P w = .ok (.slice (some ⟨w.heap.size, 0, none⟩) (n1 + n2) newcap)
          (w.drew.alloc (.cells (cl.toArray ++ cm.toArray ++ Builtin.zeroCells zv.cells (newcap - (n1 + n2))) e)) := by
        cases ad with
        | none =>
          have hc0 := hno rfl
          have hn0 : n1 = 0 := by omega
          have hcl0 : cl = [] := List.eq_nil_of_length_eq_zero (by rw [hlcl, hn0]; simp)
          refine ⟨grownCap w n2 0 e, by rw [hn0, Nat.zero_add]; exact grownCap_ge w n2 0 e, ?_⟩
          rw [e1, e2, hn0, hc0, hcl0]
          have := run_append_nil (P := P) w U ty e ie zv hue hie hzv bd n2 cap2 cm (by rw [hse]; exact hlcm) hsrc (by omega) (by omega) (by rw [hby]; rw [hn0, Nat.zero_add] at hfit; omega)
          simpa using this
        | some ad =>
          refine ⟨grownCap w (n1 + n2) cap e, grownCap_ge w _ _ e, ?_⟩
          rw [e1, e2]
          exact run_append_grow (P := P) w U ty e ie zv hue hie hzv ad n1 cap cl (by rw [hse]; exact hlcl) (fun j x hj => (hcl ad rfl j x hj).1) bd n2 cap2 cm (by rw [hse]; exact hlcm) hsrc (by omega) (by omega)
            (growslice_fits (by omega) (by rw [hby]; exact hfit))
      obtain ⟨newcap, hnc, hrun⟩ := hnew
      have hb := below_drew_alloc (w := w) (.cells (cl.toArray ++ cm.toArray ++ Builtin.zeroCells zv.cells (newcap - (n1 + n2))) e)
      have hnewblk : (w.drew.alloc (.cells (cl.toArray ++ cm.toArray ++ Builtin.zeroCells zv.cells (newcap - (n1 + n2))) e)).heap[w.heap.size]? = some (.cells (cl.toArray ++ cm.toArray ++ Builtin.zeroCells zv.cells (newcap - (n1 + n2))) e (0, 0)) := alloc_new (w := w.drew) _
      obtain ⟨g1, g2⟩ := grown_sound (X := X) H hb (fun b o => b = w.heap.size ∧ o < (n1 + n2) * t.csize) (fun b o h => by obtain ⟨rfl, _⟩ := h; exact ⟨Nat.le_refl _, lt_of_get hnewblk⟩)
      have hcs2 : cellsAt (fun b o => I b o ∨ (b = w.heap.size ∧ o < (n1 + n2) * t.csize)) (w.drew.alloc (.cells (cl.toArray ++ cm.toArray ++ Builtin.zeroCells zv.cells (newcap - (n1 + n2))) e)) ⟨w.heap.size, 0, none⟩ (cl ++ cm) := by
        intro j x hj
        rw [add_lit]
        have hjlt : j < cl.length + cm.length := by have := (List.getElem?_eq_some_iff.1 hj).1; rwa [List.length_append] at this
        refine ⟨?_, .inr ⟨rfl, by show 0 + j < _; rw [Nat.add_mul]; omega⟩⟩
        simp only [World.cell?, hnewblk, Nat.zero_add, Option.isSome_none, Bool.false_eq_true, if_false]
        rw [Array.getElem?_append_left (by simp only [Array.size_append, List.size_toArray]; exact hjlt), ← hj]
        simp
      have hasz : (cl.toArray ++ cm.toArray ++ Builtin.zeroCells zv.cells (newcap - (n1 + n2))).size = newcap * t.csize := by
        rw [Array.size_append, Array.size_append, List.size_toArray, List.size_toArray, size_zeroCells, hzs, hlcl, hlcm, ← Nat.add_mul, ← Nat.add_mul]
        congr 1; omega
      have hmu : w.heap.size ∉ μ := fun h => by have := (H.mem.mu _ h).2; omega
      have hF : ¬ c.F w.heap.size := fun h => by have := (H.mem.fr _ h).1; have := H.mem.sizeS; omega
      refine ⟨_, _, _, ⟨some ⟨w.heap.size, 0, none⟩, n1 + n2, newcap, t.csize⟩, hrun, g1, ⟨some ⟨w.heap.size, 0, none⟩, n1 + n2, newcap, cl ++ cm, rfl, happ.symm, hnc, ?_, (fun h => by cases h), (fun ad had => by cases had; exact hcs2)⟩, rfl, rfl, ?_, ?_⟩
      · unfold app
        exact RAll_append _ _ _ _ (RAll.mono (fun (x : t.den) cs hx => hx.grow g2) _ _ hal) (RAll.mono (fun (x : t.den) cs hx => hx.grow g2) _ _ ham)
      · refine .inr ⟨⟨w.heap.size, 0, none⟩, _, e, rfl, rfl, rfl, hnewblk, ?_, Nat.le_trans H.mem.base H.mem.sizeS, hmu, hF, ?_⟩
        · show 0 + newcap * t.csize ≤ _
          rw [hasz]; omega
        · show ∀ o, 0 + (n1 + n2) * t.csize ≤ o → _
          rintro o ho (k | k)
          · exact absurd (H.mem.imlt _ _ k) (Nat.lt_irrefl _)
          · exact absurd k.2 (by omega)
      · intro q hq hXq
        by_cases hnq : (ρ q).n = (ρ q).cap
        · exact .inr (.inl hnq)
        · refine .inr (.inr fun x y hx hy e => ?_)
          cases hx
          obtain ⟨ad', h3, h4⟩ := (H.rooms q hq trivial).lt hnq
          rw [hy] at h3; cases h3
          have : w.heap.size = y.block := e
          omega
end Go.Ev
