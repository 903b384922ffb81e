import Derived.Test.YtnpcihnfiffghaaEvR1f
import Derived.Laws.Strings
set_option linter.unusedVariables false
set_option maxRecDepth 100000
namespace Go.Ev.R1
open Go.Proofs
abbrev WkF := Unit → Option Bool
def cWk (G : WkF) : Ctr := ⟨9, .unit, .bool, G⟩
noncomputable def F4 (Gp : PutF) (Gg : GetF) (Gl : LenF) (Gw : WkF) (b c : List Int) (n : Int) : Option Bool :=
  sem (mk [cPut 10 Gp, cGet 12 Gg, cLen 14 Gl, cWk Gw] [(4, Try.f4)] 0) 1 4 (.pr bytesT (.pr bytesT (.int .i64))) .bool ((b, c, n) : List Int × List Int × Int)
noncomputable def F5 (Gp : PutF) (Gg : GetF) (Gl : LenF) (Gw : WkF) (b : List Int) (n : Int) : Option Bool :=
  sem (mk [cPut 10 Gp, cGet 12 Gg, cLen 14 Gl, cWk Gw] [(5, Try.f5)] 0) 1 5 (.pr bytesT (.int .i64)) .bool ((b, n) : List Int × Int)
noncomputable def F6 (Gp : PutF) (Gg : GetF) (Gl : LenF) (Gw : WkF) (n m : Int) : Option Bool :=
  sem (mk [cPut 10 Gp, cGet 12 Gg, cLen 14 Gl, cWk Gw] [(6, Try.f6)] 0) 1 6 (.pr (.int .i64) (.int .i64)) .bool ((n, m) : Int × Int)

abbrev sF : Option Bool := some false
def wk (G : WkF) : Option Bool := (G ()).bind fun y => some y

theorem F4_eq (Gp : PutF) (Gg : GetF) (Gl : LenF) (Gw : WkF) (b c : List Int) (n : Int) : F4 Gp Gg Gl Gw b c n =
    br (decide (lenI b > 2000)) (wk Gw) (br (decide (lenI c > 2000)) (wk Gw) ((Gp (b, n)).bind fun y =>
      br (decide (n < 0)) (br (eqI y.2 2) (br (eqI (lenI y.1) 0) ((Gl n).bind fun y => br (eqI y 0) (wk Gw) sF) sF) sF)
        (br (decide (n > 1099511627776)) (br (eqI y.2 2) (br (eqI (lenI y.1) 0) ((Gl n).bind fun y => br (eqI y 0) (wk Gw) sF) sF) sF)
          (br (fits ([] : List Int) y.1 1) (br (fits (app [] y.1) c 1) ((Gg (app (app [] y.1) c, lenI b)).bind fun y1 =>
            br (eqI y.2 0) (br (eqI y1.2.2 0) (br (eqI y1.1 n) (br (eqI y1.2.1 (lenI y.1)) ((Gl n).bind fun y2 =>
              br (eqI (lenI y.1) (IntKind.i64.wrap (lenI b + y2)))
                (br (decide (0 ≤ (0 : Int)) && decide (0 ≤ lenI b) && decide (lenI b ≤ lenI b) && decide (lenI b ≤ lenI y.1))
                  (br (eqS (bytesOf (cut y.1 0 (lenI b))) (bytesOf b)) (wk Gw) sF) none) sF) sF) sF) sF) sF) none) none)))) := by kernel_rfl

theorem F5_eq (Gp : PutF) (Gg : GetF) (Gl : LenF) (Gw : WkF) (b : List Int) (n : Int) : F5 Gp Gg Gl Gw b n =
    br (decide (lenI b > 2000)) (wk Gw) ((Gg (b, n)).bind fun y =>
      br (!eqI y.2.2 0) (br (eqI y.2.2 70) (wk Gw) sF)
        (br (decide (n < 0)) sF (br (decide (y.2.1 ≤ n)) sF (br (decide (y.2.1 > lenI b)) sF
          ((Gp ([], y.1)).bind fun y1 => br (eqI y1.2 0)
            (br (decide (0 ≤ n) && decide (n ≤ y.2.1) && decide (y.2.1 ≤ y.2.1) && decide (y.2.1 ≤ lenI b))
              (br (eqS (bytesOf y1.1) (bytesOf (cut b n y.2.1))) (wk Gw) sF) none) sF))))) := by kernel_rfl

def tail6 (Gl : LenF) (Gw : WkF) (n m : Int) (y y1 : List Int × Int) : Option Bool :=
  br (eqI (lenI y.1) 0) sF ((Gl n).bind fun y2 => br (!eqI (lenI y.1) y2) sF (br (eqI n m) (wk Gw) (br (decide (lenI y.1 > lenI y1.1)) (wk Gw)
    (br (decide (0 ≤ (0 : Int)) && decide (0 ≤ lenI y.1) && decide (lenI y.1 ≤ lenI y.1) && decide (lenI y.1 ≤ lenI y1.1))
      (br (!eqS (bytesOf y.1) (bytesOf (cut y1.1 0 (lenI y.1)))) (wk Gw) sF) none))))

theorem F6_eq (Gp : PutF) (Gg : GetF) (Gl : LenF) (Gw : WkF) (n m : Int) : F6 Gp Gg Gl Gw n m =
    (Gp ([], n)).bind fun y => (Gp ([], m)).bind fun y1 =>
      br (!eqI y.2 0) (br (eqI y.2 0) (wk Gw) ((Gl n).bind fun y => br (eqI y 0) (wk Gw) sF))
        (br (!eqI y1.2 0) (br (eqI y.2 0) (wk Gw) ((Gl n).bind fun y => br (eqI y 0) (wk Gw) sF))
          (br (decide (n ≤ m)) ((Gl n).bind fun y2 => (Gl m).bind fun y3 => br (decide (y2 > y3)) sF (tail6 Gl Gw n m y y1)) (tail6 Gl Gw n m y y1))) := by kernel_rfl

/-! What is read is what was written. -/

theorem enc_bytes : ∀ n, Bytes (enc n) := by
  intro n
  induction n using Nat.strongRecOn with
  | _ n ih =>
    by_cases h : n < 128
    · rw [enc_lt h]; intro y hy; simp at hy; omega
    · rw [enc_ge h]
      intro y hy
      rcases List.mem_cons.1 hy with rfl | hy
      · omega
      · exact ih (n / 128) (by omega) y hy

theorem nx_enc : ∀ (f n : Nat) (b : List Int) (at_ j a : Nat) (post : List Int), b.drop at_ = enc n ++ post → (enc n).length ≤ f → (0 < n ∨ j = 0) →
    nx f b at_ j a = ((((a + n * 128 ^ j : Nat) : Int), decide (a + n * 128 ^ j ≤ vmax)), at_ + (enc n).length)
  | 0, n, b, at_, j, a, post, hd, hf, hz => by have := enc_length_pos n; omega
  | f + 1, n, b, at_, j, a, post, hd, hf, hz => by
    unfold nx
    by_cases h : n < 128
    · rw [enc_lt h] at hd ⊢
      have hg : b[at_]? = some (n : Int) := by
        have := congrArg (fun l => l[0]?) hd
        simpa using this
      rw [hg]
      simp only
      rw [if_pos (by omega)]
      have e : (n : Int).toNat % 128 = n := by omega
      rw [e]
      have d : (decide (0 < (n : Int)) || decide (j = 0)) = true := by
        rcases hz with h | h
        · have : decide (0 < (n : Int)) = true := by rw [decide_eq_true_iff]; omega
          rw [this]; rfl
        · simp [h]
      rw [d]
      simp
    · rw [enc_ge h] at hd hf ⊢
      have hg : b[at_]? = some (128 + (n % 128 : Nat) : Int) := by
        have := congrArg (fun l => l[0]?) hd
        simpa using this
      rw [hg]
      simp only
      rw [if_neg (by omega)]
      have e : (128 + (n % 128 : Nat) : Int).toNat % 128 = n % 128 := by omega
      rw [e]
      have hd2 : b.drop (at_ + 1) = enc (n / 128) ++ post := by
        have := congrArg (List.drop 1) hd
        rw [List.drop_drop] at this
        simpa using this
      simp only [List.length_cons] at hf
      rw [nx_enc f (n / 128) b (at_ + 1) (j + 1) _ post hd2 (by omega) (.inl (by omega))]
      have e2 : a + n % 128 * 128 ^ j + n / 128 * 128 ^ (j + 1) = a + n * 128 ^ j := by
        rw [Nat.pow_succ]
        have : n = n % 128 + n / 128 * 128 := by omega
        calc a + n % 128 * 128 ^ j + n / 128 * (128 ^ j * 128) = a + (n % 128 + n / 128 * 128) * 128 ^ j := by
              rw [Nat.add_mul]; rw [Nat.mul_comm (128 ^ j) 128, ← Nat.mul_assoc]; omega
          _ = a + n * 128 ^ j := by rw [← this]
      rw [e2]
      simp only [List.length_cons]
      congr 1
      omega

theorem nx_only : ∀ (f : Nat) (b : List Int) (at_ j a : Nat), Bytes b → (nx f b at_ j a).1.2 = true →
    ∃ m, (nx f b at_ j a).1.1 = ((a + m * 128 ^ j : Nat) : Int) ∧ at_ < (nx f b at_ j a).2 ∧ (nx f b at_ j a).2 ≤ b.length ∧ (b.drop at_).take ((nx f b at_ j a).2 - at_) = enc m ∧ (0 < m ∨ j = 0) ∧ a + m * 128 ^ j ≤ vmax
  | 0, b, at_, j, a, hb, h => by cases h
  | f + 1, b, at_, j, a, hb, h => by
    unfold nx at h ⊢
    cases hy : b[at_]? with
    | none => rw [hy] at h; cases h
    | some y =>
      rw [hy] at h
      simp only at h ⊢
      have hlen := (List.getElem?_eq_some_iff.1 hy).1
      obtain ⟨y0, y1⟩ := hb y (List.mem_of_getElem? hy)
      have hdrop : b.drop at_ = y :: b.drop (at_ + 1) := by
        rw [List.drop_eq_getElem_cons hlen]
        have := (List.getElem?_eq_some_iff.1 hy).2
        rw [this]
      by_cases hlt : y < 128
      · rw [if_pos hlt] at h ⊢
        simp only [Bool.and_eq_true, decide_eq_true_eq, Bool.or_eq_true] at h ⊢
        have e : y.toNat % 128 = y.toNat := by omega
        rw [e] at h ⊢
        refine ⟨y.toNat, rfl, by omega, by omega, ?_, ?_, h.1⟩
        · rw [enc_lt (by omega), hdrop, show at_ + 1 - at_ = 1 by omega]
          simp; omega
        · rcases h.2 with h | h
          · left; omega
          · exact .inr h
      · rw [if_neg hlt] at h ⊢
        obtain ⟨m, h1, h2, h3, h4, h5, h6⟩ := nx_only f b (at_ + 1) (j + 1) _ hb h
        have e : y.toNat % 128 = y.toNat - 128 := by omega
        have hm : 0 < m := by rcases h5 with h | h <;> omega
        have ev : a + y.toNat % 128 * 128 ^ j + m * 128 ^ (j + 1) = a + (y.toNat - 128 + m * 128) * 128 ^ j := by
          rw [e, Nat.pow_succ, Nat.add_mul, Nat.mul_comm (128 ^ j) 128, ← Nat.mul_assoc]; omega
        rw [ev] at h1 h6
        refine ⟨y.toNat - 128 + m * 128, h1, by omega, h3, ?_, .inl (by omega), h6⟩
        rw [enc_ge (by omega), hdrop]
        have e1 : (y.toNat - 128 + m * 128) / 128 = m := by omega
        have e2 : (y.toNat - 128 + m * 128) % 128 = y.toNat - 128 := by omega
        rw [e1, e2]
        have e3 : (nx f b (at_ + 1) (j + 1) (a + y.toNat % 128 * 128 ^ j)).2 - at_ = ((nx f b (at_ + 1) (j + 1) (a + y.toNat % 128 * 128 ^ j)).2 - (at_ + 1)) + 1 := by omega
        rw [e3, List.take_succ_cons, h4]
        congr 1
        omega

theorem enc_inj_pre {n m : Nat} {l : List Int} (hn : n ≤ vmax) (hm : m ≤ vmax) (h : enc n ++ l = enc m) : n = m := by
  have h1 := nx_enc 6 n (enc m) 0 0 0 l (by rw [h]; rfl) (enc_len6 hn) (.inr rfl)
  have h2 := nx_enc 6 m (enc m) 0 0 0 [] (by simp) (enc_len6 hm) (.inr rfl)
  rw [h1] at h2
  have := congrArg (fun x => x.1.1) h2
  simp at this
  omega

theorem enc_mono : ∀ (m n : Nat), n ≤ m → (enc n).length ≤ (enc m).length := by
  intro m
  induction m using Nat.strongRecOn with
  | _ m ih =>
    intro n h
    by_cases h1 : n < 128
    · rw [enc_lt h1]; have := enc_length_pos m; simp; omega
    · rw [enc_ge h1, enc_ge (by omega : ¬ m < 128)]
      simp only [List.length_cons]
      have := ih (m / 128) (by omega) (n / 128) (by omega)
      omega

theorem bytesOf_inj {l m : List Int} (hl : Bytes l) (hm : Bytes m) (h : eqS (bytesOf l) (bytesOf m) = true) : l = m := by
  have key : ∀ l m : List Int, Bytes l → Bytes m → l.map (fun n => UInt8.ofNat n.toNat) = m.map (fun n => UInt8.ofNat n.toNat) → l = m := by
    intro l
    induction l with
    | nil => intro m _ _ h; cases m with
      | nil => rfl
      | cons _ _ => cases h
    | cons x l ih =>
      intro m hl hm h
      cases m with
      | nil => cases h
      | cons y m =>
        simp only [List.map_cons, List.cons.injEq] at h
        obtain ⟨x0, x1⟩ := hl x (by simp)
        obtain ⟨y0, y1⟩ := hm y (by simp)
        have := congrArg UInt8.toNat h.1
        simp only [UInt8.toNat_ofNat'] at this
        have e : x = y := by omega
        rw [e, ih m (fun z hz => hl z (List.mem_cons_of_mem _ hz)) (fun z hz => hm z (List.mem_cons_of_mem _ hz)) h.2]
  have h2 : (bytesOf l).toList = (bytesOf m).toList := by simpa [eqS] using h
  rw [ByteArray.toList_eq, ByteArray.toList_eq] at h2
  exact key l m hl hm (by simpa [bytesOf] using h2)

theorem eqS_of {x y : ByteArray} (h : x = y) : eqS x y = true := by subst h; simp [eqS]

abbrev gl : LenF := fun n => some (vlen n)
abbrev gw : WkF := fun _ => some true

theorem dT {p : Prop} [Decidable p] (h : p) : decide p = true := decide_eq_true h
theorem dF {p : Prop} [Decidable p] (h : ¬ p) : decide p = false := decide_eq_false h
theorem eqI_ne {x y : Int} (h : x ≠ y) : eqI x y = false := by simp [eqI, h]

theorem putG_eq {b : List Int} {n : Int} (h : b.length ≤ 1099511627776) : putG (b, n) = some (put b n) := if_pos h
theorem getG_eq {b : List Int} {n : Int} (h : Bytes b) (h2 : b.length ≤ 1099511627776) : getG (b, n) = some (get b n) := if_pos ⟨h, h2⟩

theorem back_spec (b c : List Int) (n : Int) (hb : Bytes b) (hc : Bytes c) : F4 putG getG gl gw b c n = some true := by
  rw [F4_eq]
  by_cases h1 : lenI b > 2000
  · rw [dT h1]; rfl
  rw [dF h1]
  by_cases h2 : lenI c > 2000
  · rw [dT h2]; rfl
  rw [dF h2]
  unfold lenI at h1 h2
  show (putG (b, n)).bind _ = _
  rw [putG_eq (by omega)]
  simp only [Option.bind_some]
  by_cases h3 : n < 0
  · rw [dT h3]
    have : put b n = ([], 2) := by unfold put; rw [if_pos (.inl h3)]
    rw [this]
    have : vlen n = 0 := by unfold vlen; rw [if_pos (.inl h3)]
    simp only [this]
    rfl
  rw [dF h3]
  by_cases h4 : n > 1099511627776
  · rw [dT h4]
    have : put b n = ([], 2) := by unfold put; rw [if_pos (.inr h4)]
    rw [this]
    have : vlen n = 0 := by unfold vlen; rw [if_pos (.inr h4)]
    simp only [this]
    rfl
  rw [dF h4]
  have hp : put b n = (b ++ enc n.toNat, 0) := by unfold put; rw [if_neg (by omega)]
  have hv : vlen n = ((enc n.toNat).length : Int) := by unfold vlen; rw [if_neg (by omega)]
  have h6 := enc_len6 (n := n.toNat) (by omega)
  rw [hp]
  simp only
  rw [fits_of (by simp; omega), fits_of (by simp [app]; omega)]
  have ha : app (app [] (b ++ enc n.toNat)) c = b ++ (enc n.toNat ++ c) := by simp [app]
  have hby : Bytes (b ++ (enc n.toNat ++ c)) := by
    intro y hy
    rcases List.mem_append.1 hy with hy | hy
    · exact hb y hy
    · rcases List.mem_append.1 hy with hy | hy
      · exact enc_bytes _ y hy
      · exact hc y hy
  rw [ha]
  show (getG (b ++ (enc n.toNat ++ c), lenI b)).bind _ = _
  rw [getG_eq hby (by simp; omega)]
  have hnx := nx_enc 6 n.toNat (b ++ (enc n.toNat ++ c)) b.length 0 0 c (by simp) h6 (.inr rfl)
  have hg : get (b ++ (enc n.toNat ++ c)) (lenI b) = (n, ((b.length + (enc n.toNat).length : Nat) : Int), 0) := by
    unfold get lenI
    rw [if_neg (by simp; omega), Int.toNat_natCast, hnx]
    have hm : decide (0 + n.toNat * 128 ^ 0 ≤ vmax) = true := dT (by unfold vmax; omega)
    simp only [hm, if_true]
    have : ((0 + n.toNat * 128 ^ 0 : Nat) : Int) = n := by omega
    rw [this]
  rw [hg]
  simp only [Option.bind_some, hv]
  have e1 : eqI ((b.length + (enc n.toNat).length : Nat) : Int) (lenI (b ++ enc n.toNat)) = true := by
    rw [show lenI (b ++ enc n.toNat) = ((b.length + (enc n.toNat).length : Nat) : Int) by simp [lenI]]; exact eqI_refl _
  have e2 : eqI (lenI (b ++ enc n.toNat)) (IntKind.i64.wrap (lenI b + ((enc n.toNat).length : Int))) = true := by
    rw [wrap64 (by unfold lenI; omega) (by unfold lenI; omega)]
    rw [show lenI (b ++ enc n.toNat) = lenI b + ((enc n.toNat).length : Int) by simp [lenI]]; exact eqI_refl _
  have e3 : (decide (0 ≤ (0 : Int)) && decide (0 ≤ lenI b) && decide (lenI b ≤ lenI b) && decide (lenI b ≤ lenI (b ++ enc n.toNat))) = true := by simp [lenI]; omega
  have e4 : cut (b ++ enc n.toNat) 0 (lenI b) = b := by simp [cut, lenI]
  simp only [eqI_refl, e1, e2, e3, e4, eqS_refl]
  rfl

theorem only_spec (b : List Int) (n : Int) (hb : Bytes b) : F5 putG getG gl gw b n = some true := by
  rw [F5_eq]
  by_cases h1 : lenI b > 2000
  · rw [dT h1]; rfl
  rw [dF h1]
  unfold lenI at h1
  show (getG (b, n)).bind _ = _
  rw [getG_eq hb (by omega)]
  simp only [Option.bind_some]
  unfold get
  by_cases h2 : n < 0 ∨ n > b.length
  · rw [if_pos h2]; rfl
  rw [if_neg h2]
  by_cases h3 : (nx 6 b n.toNat 0 0).1.2 = true
  · rw [if_pos h3]
    simp only
    obtain ⟨m, k1, k2, k3, k4, k5, k6⟩ := nx_only 6 b n.toNat 0 0 hb h3
    have e0 : (!eqI 0 0) = false := rfl
    rw [e0]
    have e1 : decide (n < 0) = false := dF (by omega)
    have e2 : decide (((nx 6 b n.toNat 0 0).2 : Int) ≤ n) = false := dF (by omega)
    have e3 : decide (((nx 6 b n.toNat 0 0).2 : Int) > lenI b) = false := dF (by unfold lenI; omega)
    rw [e1, e2, e3, putG_eq (by simp)]
    simp only [Option.bind_some, br, cond_false]
    have hm : (nx 6 b n.toNat 0 0).1.1 = (m : Int) := by rw [k1]; omega
    have hp : put [] (m : Int) = (enc m, 0) := by unfold put; rw [if_neg (by unfold vmax at k6; omega)]; simp
    rw [hm, hp]
    simp only
    have e5 : (decide (0 ≤ n) && decide (n ≤ ((nx 6 b n.toNat 0 0).2 : Int)) && decide (((nx 6 b n.toNat 0 0).2 : Int) ≤ ((nx 6 b n.toNat 0 0).2 : Int)) && decide (((nx 6 b n.toNat 0 0).2 : Int) ≤ lenI b)) = true := by
      rw [dT (by omega : 0 ≤ n), dT (by omega : n ≤ ((nx 6 b n.toNat 0 0).2 : Int)), dT (by omega : ((nx 6 b n.toNat 0 0).2 : Int) ≤ ((nx 6 b n.toNat 0 0).2 : Int)), dT (by unfold lenI; omega : ((nx 6 b n.toNat 0 0).2 : Int) ≤ lenI b)]; rfl
    have e6 : cut b n ((nx 6 b n.toNat 0 0).2 : Int) = enc m := by
      unfold cut
      rw [Int.toNat_natCast, ← k4, List.drop_take]
    rw [e5, e6, eqI_refl, eqS_refl]
    rfl
  · rw [if_neg h3]; rfl

theorem tail6_spec (n m : Nat) (hn : n ≤ vmax) (hm : m ≤ vmax) : tail6 gl gw n m (enc n, 0) (enc m, 0) = some true := by
  have hp := enc_length_pos n
  unfold vmax at hn hm
  have hv : vlen (n : Int) = ((enc n).length : Int) := by unfold vlen; rw [if_neg (by omega), Int.toNat_natCast]
  unfold tail6
  have e1 : eqI (lenI (enc n)) 0 = false := eqI_ne (by unfold lenI; omega)
  simp only [Option.bind_some, hv, e1]
  have e2 : (!eqI (lenI (enc n)) ((enc n).length : Int)) = false := by
    rw [show eqI (lenI (enc n)) ((enc n).length : Int) = true from eqI_refl _]; rfl
  rw [e2]
  by_cases h : n = m
  · subst h; rw [eqI_refl]; rfl
  · rw [eqI_ne (show (n : Int) ≠ (m : Int) by omega)]
    by_cases h2 : lenI (enc n) > lenI (enc m)
    · rw [dT h2]; rfl
    · rw [dF h2]
      have e3 : (decide (0 ≤ (0 : Int)) && decide (0 ≤ lenI (enc n)) && decide (lenI (enc n) ≤ lenI (enc n)) && decide (lenI (enc n) ≤ lenI (enc m))) = true := by
        unfold lenI at h2 ⊢
        simp; omega
      rw [e3]
      have e4 : eqS (bytesOf (enc n)) (bytesOf (cut (enc m) 0 (lenI (enc n)))) = false := by
        cases hq : eqS (bytesOf (enc n)) (bytesOf (cut (enc m) 0 (lenI (enc n)))) with
        | false => rfl
        | true =>
          exfalso
          have hcut : cut (enc m) 0 (lenI (enc n)) = (enc m).take (enc n).length := by simp [cut, lenI]
          have := bytesOf_inj (enc_bytes n) (by rw [hcut]; intro y hy; exact enc_bytes m y (List.mem_of_mem_take hy)) hq
          rw [hcut] at this
          refine h (enc_inj_pre (l := (enc m).drop (enc n).length) (by unfold vmax; omega) (by unfold vmax; omega) ?_)
          calc enc n ++ (enc m).drop (enc n).length = (enc m).take (enc n).length ++ (enc m).drop (enc n).length := by rw [← this]
            _ = enc m := List.take_append_drop _ _
      rw [e4]
      rfl

theorem short_spec (n m : Int) : F6 putG getG gl gw n m = some true := by
  rw [F6_eq, putG_eq (by simp), putG_eq (by simp)]
  simp only [Option.bind_some]
  by_cases h1 : n < 0 ∨ n > 1099511627776
  · have : put [] n = ([], 2) := by unfold put; rw [if_pos h1]
    have hv : vlen n = 0 := by unfold vlen; rw [if_pos h1]
    rw [this, hv]
    rfl
  have hp : put [] n = (enc n.toNat, 0) := by unfold put; rw [if_neg h1]; simp
  rw [hp]
  by_cases h2 : m < 0 ∨ m > 1099511627776
  · have : put [] m = ([], 2) := by unfold put; rw [if_pos h2]
    rw [this]
    rfl
  have hp2 : put [] m = (enc m.toNat, 0) := by unfold put; rw [if_neg h2]; simp
  have hv : vlen n = ((enc n.toNat).length : Int) := by unfold vlen; rw [if_neg h1]
  have hv2 : vlen m = ((enc m.toNat).length : Int) := by unfold vlen; rw [if_neg h2]
  rw [hp2]
  have ht := tail6_spec n.toNat m.toNat (by unfold vmax; omega) (by unfold vmax; omega)
  rw [show ((n.toNat : Nat) : Int) = n by omega, show ((m.toNat : Nat) : Int) = m by omega] at ht
  have e0 : (!eqI 0 0) = false := rfl
  simp only [e0, hv, hv2, ht]
  by_cases h3 : n ≤ m
  · rw [dT h3]
    have := enc_mono m.toNat n.toNat (by omega)
    have e : decide (((enc n.toNat).length : Int) > ((enc m.toNat).length : Int)) = false := dF (by omega)
    rw [e]; rfl
  · rw [dF h3]; rfl
end Go.Ev.R1
