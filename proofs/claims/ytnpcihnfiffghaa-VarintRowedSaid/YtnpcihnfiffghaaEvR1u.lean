import Derived.Test.YtnpcihnfiffghaaEvR1s
set_option linter.unusedVariables false
set_option maxRecDepth 100000
namespace Go.Ev.R1
open Go.Proofs

/-! A row there and back. -/

def flat : List Int → List Int
  | [] => []
  | x :: l => enc x.toNat ++ flat l

def Nums (l : List Int) : Prop := ∀ x, x ∈ l → 0 ≤ x ∧ x ≤ 1099511627776

theorem goR_cases : ∀ (l b : List Int), (goR b l = (b ++ flat l, 0) ∧ Nums l) ∨ goR b l = ([], 2)
  | [], b => .inl ⟨by simp [goR, flat], fun x hx => by cases hx⟩
  | x :: l, b => by
    unfold goR
    rcases put_cases b x with hp | ⟨hp, x0, x1⟩
    · rw [hp]; right; rfl
    · rw [hp]
      simp only
      rw [if_pos trivial]
      rcases goR_cases l (b ++ enc x.toNat) with ⟨h1, h2⟩ | h
      · left
        refine ⟨by rw [h1]; simp [flat], fun y hy => ?_⟩
        rcases List.mem_cons.1 hy with rfl | hy
        · exact ⟨x0, x1⟩
        · exact h2 y hy
      · exact .inr h

theorem enc_ne (n : Nat) : enc n ≠ [] := by
  have := enc_length_pos n
  intro e; rw [e] at this; simp at this

theorem nx_num {x : Int} (h0 : 0 ≤ x) (h1 : x ≤ 1099511627776) {b : List Int} {at_ : Nat} {post : List Int} (h : b.drop at_ = enc x.toNat ++ post) :
    nx 6 b at_ 0 0 = ((x, true), at_ + (enc x.toNat).length) := by
  rw [nx_enc 6 x.toNat b at_ 0 0 post h (enc_len6 (by omega)) (.inr rfl), dT (by unfold vmax; omega)]
  have : ((0 + x.toNat * 128 ^ 0 : Nat) : Int) = x := by omega
  rw [this]

theorem goRd_flat : ∀ (l b : List Int) (at_ : Nat) (acc post : List Int), Nums l → b.drop at_ = flat l ++ post → at_ ≤ b.length → goRd b l.length at_ acc = if post = [] then (acc ++ l, 0) else ([], 70)
  | [], b, at_, acc, post, hl, hd, ha => by
    show (if at_ = b.length then (acc, 0) else ([], 70)) = _
    have hlen := congrArg List.length hd
    simp only [List.length_drop, flat, List.nil_append] at hlen
    by_cases hp : post = []
    · rw [if_pos hp]; subst hp; simp at hlen; rw [if_pos (by omega)]; simp
    · rw [if_neg hp, if_neg]
      intro e
      apply hp
      apply List.length_eq_zero_iff.1
      omega
  | x :: l, b, at_, acc, post, hl, hd, ha => by
    obtain ⟨x0, x1⟩ := hl x (by simp)
    have hd' : b.drop at_ = enc x.toNat ++ (flat l ++ post) := by rw [hd]; simp [flat]
    have hn := nx_num x0 x1 hd'
    show (if (nx 6 b at_ 0 0).1.2 = true then goRd b l.length (nx 6 b at_ 0 0).2 (acc ++ [(nx 6 b at_ 0 0).1.1]) else ([], 70)) = _
    rw [hn]
    simp only
    rw [if_pos trivial]
    have hlen := congrArg List.length hd'
    simp only [List.length_drop, List.length_append] at hlen
    have hpos := enc_length_pos x.toNat
    rw [goRd_flat l b _ (acc ++ [x]) post (fun y hy => hl y (List.mem_cons_of_mem _ hy)) ?_ (by omega)]
    · simp
    · rw [← List.drop_drop, hd', List.drop_left]

theorem nx_trunc : ∀ (f n : Nat) (b : List Int) (at_ j a : Nat), b.drop at_ = (enc n).dropLast → (nx f b at_ j a).1.2 = false
  | 0, n, b, at_, j, a, h => rfl
  | f + 1, n, b, at_, j, a, h => by
    unfold nx
    by_cases hn : n < 128
    · rw [enc_lt hn] at h
      have : b[at_]? = none := by
        have := congrArg (fun l => l[0]?) h
        simpa using this
      rw [this]
    · rw [enc_ge hn, List.dropLast_cons_of_ne_nil (enc_ne _)] at h
      have hg : b[at_]? = some (128 + (n % 128 : Nat) : Int) := by
        have := congrArg (fun l => l[0]?) h
        simpa using this
      rw [hg]
      simp only
      rw [if_neg (by omega)]
      apply nx_trunc f (n / 128)
      have := congrArg (List.drop 1) h
      rw [List.drop_drop] at this
      simpa using this

theorem flat_ne {x : Int} {l : List Int} : flat (x :: l) ≠ [] := by
  intro e
  have := congrArg List.length e
  have hp := enc_length_pos x.toNat
  simp only [flat, List.length_append, List.length_nil] at this
  omega

theorem goRd_trunc : ∀ (l b : List Int) (x : Int) (at_ : Nat) (acc : List Int), Nums (x :: l) → b.drop at_ = (flat (x :: l)).dropLast → goRd b (l.length + 1) at_ acc = ([], 70)
  | [], b, x, at_, acc, hl, hd => by
    show (if (nx 6 b at_ 0 0).1.2 = true then _ else ([], 70)) = _
    rw [nx_trunc 6 x.toNat b at_ 0 0 (by rw [hd]; simp [flat])]
    rfl
  | y :: l, b, x, at_, acc, hl, hd => by
    obtain ⟨x0, x1⟩ := hl x (by simp)
    have hd' : b.drop at_ = enc x.toNat ++ (flat (y :: l)).dropLast := by
      rw [hd, show flat (x :: y :: l) = enc x.toNat ++ flat (y :: l) from rfl, List.dropLast_append_of_ne_nil flat_ne]
    have hn := nx_num x0 x1 hd'
    show (if (nx 6 b at_ 0 0).1.2 = true then goRd b (l.length + 1) (nx 6 b at_ 0 0).2 (acc ++ [(nx 6 b at_ 0 0).1.1]) else ([], 70)) = _
    rw [hn]
    simp only
    rw [if_pos trivial]
    refine goRd_trunc l b y _ _ (fun z hz => hl z (List.mem_cons_of_mem _ hz)) ?_
    rw [← List.drop_drop, hd', List.drop_left]

theorem flat_len : ∀ l : List Int, l.length ≤ (flat l).length
  | [] => by simp [flat]
  | x :: l => by
    have := flat_len l
    have := enc_length_pos x.toNat
    simp only [flat, List.length_append, List.length_cons]
    omega

theorem readRow_flat (l post : List Int) (hl : Nums l) (hn : l.length ≤ 1099511627776) : readRow (enc l.length ++ (flat l ++ post)) = if post = [] then (l, 0) else ([], 70) := by
  have h := nx_num (x := (l.length : Int)) (by omega) (by omega) (b := enc l.length ++ (flat l ++ post)) (at_ := 0) (post := flat l ++ post) (by simp)
  unfold readRow
  rw [h]
  have hf := flat_len l
  rw [if_pos ⟨rfl, by simp only [List.length_append]; omega⟩]
  simp only [Int.toNat_natCast, Nat.zero_add]
  rw [goRd_flat l _ _ [] post hl (by rw [List.drop_left]) (by simp)]
  simp

theorem readRow_trunc (l : List Int) (hl : Nums l) (hn : l.length ≤ 1099511627776) : readRow (enc l.length ++ flat l).dropLast = ([], 70) := by
  cases l with
  | nil =>
    show readRow (enc 0 ++ []).dropLast = _
    rw [enc_lt (by omega)]
    rfl
  | cons x l =>
    rw [List.dropLast_append_of_ne_nil flat_ne]
    have h := nx_num (x := ((x :: l).length : Int)) (by omega) (by omega) (b := enc (x :: l).length ++ (flat (x :: l)).dropLast) (at_ := 0) (post := (flat (x :: l)).dropLast) (by simp)
    unfold readRow
    rw [h]
    split
    · simp only [Int.toNat_natCast, Nat.zero_add]
      exact goRd_trunc l _ x _ [] hl (by rw [List.drop_left])
    · rfl

theorem flat_bytes : ∀ l, Bytes (flat l)
  | [] => fun y hy => by cases hy
  | x :: l => fun y hy => by
    rcases List.mem_append.1 hy with hy | hy
    · exact enc_bytes _ y hy
    · exact flat_bytes l y hy
theorem flat_le : ∀ l : List Int, Nums l → (flat l).length ≤ 6 * l.length
  | [], _ => by simp [flat]
  | x :: l, h => by
    have := flat_le l fun y hy => h y (List.mem_cons_of_mem _ hy)
    obtain ⟨x0, x1⟩ := h x (by simp)
    have := enc_len6 (n := x.toNat) (by omega)
    simp only [flat, List.length_append, List.length_cons]
    omega
theorem app_bytes {a b : List Int} (ha : Bytes a) (hb : Bytes b) : Bytes (a ++ b) := fun y hy => by
  rcases List.mem_append.1 hy with hy | hy
  · exact ha y hy
  · exact hb y hy

theorem rowed_spec (l : List Int) (m : Int) (hm : 0 ≤ m ∧ m < 256) : F8 rowG readG intsG gw l m = some true := by
  rw [F8_eq]
  by_cases h1 : lenI l > 300
  · rw [dT h1]; rfl
  rw [dF h1]
  unfold lenI at h1
  have e1 : rowG l = some (row l) := if_pos (by omega)
  rw [e1]
  simp only [Option.bind_some]
  rcases goR_cases l (enc l.length) with ⟨hr, hN⟩ | hr
  · have hr : row l = (enc l.length ++ flat l, 0) := hr
    rw [hr]
    have h6 := enc_len6 (n := l.length) (by omega)
    have hp := enc_length_pos l.length
    have hf := flat_le l hN
    have hB : Bytes (enc l.length ++ flat l) := app_bytes (enc_bytes _) (flat_bytes _)
    have r1 : readG (enc l.length ++ flat l) = some (l, 0) := by
      have := readRow_flat l [] hN (by omega)
      rw [List.append_nil, if_pos rfl] at this
      unfold readG
      rw [if_pos ⟨hB, by simp; omega⟩, this]
    have hi : intsG (l, l) = some true := by unfold intsG; rw [if_pos (by show l.length ≤ _; omega)]; simp
    have hL : lenI (enc l.length ++ flat l) = (((enc l.length ++ flat l).length : Nat) : Int) := rfl
    have hlen : (enc l.length ++ flat l).length = (enc l.length).length + (flat l).length := by simp
    have hw : IntKind.i64.wrap (lenI (enc l.length ++ flat l) - 1) = (((enc l.length ++ flat l).length - 1 : Nat) : Int) := by rw [wrap64 (by omega) (by omega)]; omega
    have hcut : cut (enc l.length ++ flat l) 0 (((enc l.length ++ flat l).length - 1 : Nat) : Int) = (enc l.length ++ flat l).dropLast := by
      rw [List.dropLast_eq_take]; unfold cut; rw [Int.toNat_natCast]; rfl
    have r2 : readG (enc l.length ++ flat l).dropLast = some ([], 70) := by
      unfold readG
      rw [if_pos ⟨fun y hy => hB y (List.dropLast_subset _ hy), by simp; omega⟩, readRow_trunc l hN (by omega)]
    have r3 : readG (app (app [] (enc l.length ++ flat l)) [m]) = some ([], 70) := by
      have := readRow_flat l [m] hN (by omega)
      rw [if_neg (by simp)] at this
      have e : app (app [] (enc l.length ++ flat l)) [m] = enc l.length ++ (flat l ++ [m]) := by simp [app]
      rw [e]
      unfold readG
      rw [if_pos ⟨app_bytes (enc_bytes _) (app_bytes (flat_bytes _) fun y hy => by rw [List.mem_singleton.1 hy]; exact hm), by simp; omega⟩, this]
    have e0 : (!eqI 0 0) = false := rfl
    have e4 : eqI (lenI (enc l.length ++ flat l)) 0 = false := eqI_ne (by omega)
    have e5 : (decide (0 ≤ (0 : Int)) && decide (0 ≤ (((enc l.length ++ flat l).length - 1 : Nat) : Int)) && decide ((((enc l.length ++ flat l).length - 1 : Nat) : Int) ≤ (((enc l.length ++ flat l).length - 1 : Nat) : Int)) && decide ((((enc l.length ++ flat l).length - 1 : Nat) : Int) ≤ lenI (enc l.length ++ flat l))) = true := by
      rw [dT (by omega : (0 : Int) ≤ 0), dT (Int.natCast_nonneg _), dT (Int.le_refl _), dT (by omega)]; rfl
    simp only [e0, br, cond_false, r1, Option.bind_some, hi, Bool.not_true, e4, hw, e5, cond_true, hcut, r2, r3]
    rw [fits_of (by simp; omega), fits_of (by simp [app]; omega)]
    rfl
  · have hr : row l = ([], 2) := hr
    rw [hr]; rfl

open Classical in
noncomputable def rowedG (x : List Int × Int) : Option Bool := if 0 ≤ x.2 ∧ x.2 < 256 then some true else none
noncomputable def rowedC : Ctr := ⟨8, .pr intsT (.int .u8), .bool, rowedG⟩
theorem fn8 : FnsOK Try.prog [(8, Try.f8)] := ⟨⟨Try.func8, by decide⟩, trivial⟩
theorem rowedC_ok : CtrAll Try.prog rowedC := by
  refine ctr_of mixed ⟨Try.f8, Try.func8, by decide, rfl⟩ rfl rfl ?_
  rintro ⟨l, m⟩ y h
  refine ⟨mk [cRow 16 rowG, cRead 18 readG, cInts intsG, cWk gw] [(8, Try.f8)] 0, 1,
    base.env (⟨rowC_ok, readC_ok, intsC_ok, wakesC_ok, trivial⟩ : CtrsOK Try.prog [cRow 16 rowG, cRead 18 readG, cInts intsG, wakesC]) fn8, ?_⟩
  have h : rowedG (l, m) = some y := h
  unfold rowedG at h
  split at h
  · rename_i hb
    exact (rowed_spec l m hb).trans h
  · cases h
theorem u8_of {m : Int} (h2 : (Lit.int .u8 m).wf = true) : 0 ≤ m ∧ m < 256 := by
  have e1 : IntKind.u8.min = 0 := rfl
  have e2 : IntKind.u8.max = 255 := rfl
  simp [Lit.wf, e1, e2] at h2
  omega
end Go.Ev.R1
