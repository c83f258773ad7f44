/- Plain: what the printed functions of the reference's auction answer, told by the model: Shares, Sale, Number, Bytes, and the law's numbers. -/
import Derived.Test.YtpkongocabnciaaRefM2
namespace Go.Proofs.Ytpkongocabnciaa
open Go.RowKit Go.Proofs.Ytpkongocabnciaa.PClockPlays
open Go.Proofs.YtpkongocabnciaaW.PrintWords (rd)

theorem rd_app {pre rest : List Int} {x : Int} {i : Nat} (h : pre.length = i) : rd (pre ++ x :: rest) (i : Int) = x := by
  apply rd_at; rw [List.getElem?_append_right (by omega), h, Nat.sub_self]; rfl
theorem set_app {pre rest : List Int} {x y : Int} {i : Nat} (h : pre.length = i) : (pre ++ x :: rest).set i y = (pre ++ [y]) ++ rest := by
  rw [List.set_append_right _ _ (by omega), h, Nat.sub_self, List.set_cons_zero]; simp

theorem give_cons (x g left : Int) (r gs : List Int) : Auc.give (x :: r) (g :: gs) left = if 0 < left ∧ x < g then (x + 1) :: Auc.give r gs (left - 1) else x :: Auc.give r gs left := rfl

/-- Shares' last loop. -/
theorem Shares_l2 (gs : List Int) (hlen : gs.length ≤ 16) : ∀ (d k i : Nat) (pre rest : List Int) (left : Int), i + d = gs.length → d < k → pre.length = i → rest.length = d → (∀ x ∈ rest, 0 ≤ x ∧ x ≤ 1099511627777) → -4000000000000000 ≤ left → left ≤ 4000000000000000 →
    gavelref07_Shares.l2 k gs (pre ++ rest) left i = some (pre ++ Auc.give rest (gs.drop i) left, true) := by
  intro d
  induction d with
  | zero =>
    intro k i pre rest left hi hk hp hr hx h0 h1
    obtain ⟨k, rfl⟩ : ∃ m, k = m + 1 := ⟨k - 1, by omega⟩
    obtain rfl : rest = [] := List.eq_nil_of_length_eq_zero hr
    simp only [gavelref07_Shares.l2]
    rw [if_neg (by omega)]
    rfl
  | succ d ih =>
    intro k i pre rest left hi hk hp hr hx h0 h1
    obtain ⟨k, rfl⟩ : ∃ m, k = m + 1 := ⟨k - 1, by omega⟩
    obtain ⟨x, rest, rfl⟩ : ∃ x r, rest = x :: r := by
      cases rest with
      | nil => simp at hr
      | cons x r => exact ⟨x, r, rfl⟩
    have hx0 := hx x (List.mem_cons_self ..)
    have hg : gs[i]? = some (gs[i]'(by omega)) := List.getElem?_eq_getElem (by omega)
    have hdrop : gs.drop i = gs[i]'(by omega) :: gs.drop (i + 1) := List.drop_eq_getElem_cons (by omega)
    have hrl : rest.length = d := by simpa using hr
    have e1 : wrap64 ((i : Int) + 1) = ((i + 1 : Nat) : Int) := by rw [w64 (by omega) (by omega)]; omega
    simp only [gavelref07_Shares.l2]
    rw [if_pos (by omega), rd_app hp, rd_at hg, e1, hdrop]
    have step := fun (y : Int) (left' : Int) (a : -4000000000000000 ≤ left') (b : left' ≤ 4000000000000000) => ih k (i + 1) (pre ++ [y]) rest left' (by omega) (by omega) (by simp; omega) hrl (fun z hz => hx z (List.mem_cons_of_mem _ hz)) a b
    by_cases hl : left > 0
    · rw [if_pos hl, if_pos (by omega), if_pos (by simp; omega)]
      by_cases hlt : x < gs[i]'(by omega)
      · rw [if_pos hlt, Int.toNat_natCast, set_app hp, w64 (x := x + 1) (by omega) (by omega), w64 (x := left - 1) (by omega) (by omega), step _ _ (by omega) (by omega)]
        rw [give_cons, if_pos ⟨hl, hlt⟩]; simp
      · rw [if_neg hlt]
        have := step x left h0 h1
        simp only [List.append_assoc, List.singleton_append] at this
        rw [this]
        rw [give_cons, if_neg (fun h => hlt h.2)]
    · rw [if_neg hl]
      have := step x left h0 h1
      simp only [List.append_assoc, List.singleton_append] at this
      rw [this]
      rw [give_cons, if_neg (fun h => hl h.1)]

theorem quot_bound (n s g : Int) (h0 : 0 ≤ n) (h1 : n ≤ 1048576) (g0 : 0 ≤ g) (g1 : g ≤ 1048576) : 0 ≤ Auc.quotOf n s g ∧ Auc.quotOf n s g ≤ 1099511627776 := by
  unfold Auc.quotOf
  have a0 : 0 ≤ n * g := Int.mul_nonneg h0 g0
  have a1 : n * g ≤ 1048576 * 1048576 := Int.mul_le_mul h1 g1 g0 (by omega)
  split
  · exact ⟨Int.ediv_nonneg a0 (by omega), Int.le_trans (Int.ediv_le_self _ a0) (by omega)⟩
  · omega

/-- Shares' middle loop. -/
theorem Shares_l1 (n : Int) (gs : List Int) (hlen : gs.length ≤ 16) (h0 : 0 ≤ n) (h1 : n ≤ 1048576) (hg : ∀ g ∈ gs, 0 ≤ g ∧ g ≤ 1048576) : ∀ (d k i : Nat), i + d = gs.length → d + 20 < k →
    gavelref07_Shares.l1 k n gs gs.sum ((gs.take i).map (Auc.quotOf n gs.sum)) i = some (Auc.shares n gs, true) := by
  intro d
  induction d with
  | zero =>
    intro k i hi hk
    obtain ⟨k, rfl⟩ : ∃ m, k = m + 1 := ⟨k - 1, by omega⟩
    have hq : ∀ x ∈ gs.map (Auc.quotOf n gs.sum), 0 ≤ x ∧ x ≤ 1099511627777 := by
      intro x hx
      obtain ⟨g, hgm, rfl⟩ := List.mem_map.1 hx
      have := quot_bound n gs.sum g h0 h1 (hg g hgm).1 (hg g hgm).2
      omega
    have hs := sumT _ 1099511627777 hq (by omega) (by simp; omega) (gs.map (Auc.quotOf n gs.sum)).length
    rw [List.take_length] at hs
    simp only [gavelref07_Shares.l1]
    rw [if_neg (by omega), List.take_of_length_le (by omega), Sum_f _ 1099511627777 hq (by omega) (by simp; omega) k (by simp; omega)]
    simp only [Option.bind_some]
    rw [w64 (by omega) (by omega)]
    have := Shares_l2 gs hlen gs.length k 0 [] (gs.map (Auc.quotOf n gs.sum)) (n - (gs.map (Auc.quotOf n gs.sum)).sum) (by omega) (by omega) rfl (by simp) hq (by omega) (by omega)
    simpa [Auc.shares] using this
  | succ d ih =>
    intro k i hi hk
    obtain ⟨k, rfl⟩ : ∃ m, k = m + 1 := ⟨k - 1, by omega⟩
    have hgi : gs[i]? = some (gs[i]'(by omega)) := List.getElem?_eq_getElem (by omega)
    obtain ⟨g, hge⟩ : ∃ g, gs[i]? = some g := ⟨_, hgi⟩
    have hgb := hg g (List.mem_of_getElem? hge)
    have e1 : wrap64 ((i : Int) + 1) = ((i + 1 : Nat) : Int) := by rw [w64 (by omega) (by omega)]; omega
    have hlt : ((gs.take i).map (Auc.quotOf n gs.sum)).length = i := by simp; omega
    have a0 : 0 ≤ n * g := Int.mul_nonneg h0 hgb.1
    have a1 : n * g ≤ 1048576 * 1048576 := Int.mul_le_mul h1 hgb.2 hgb.1 (by omega)
    have hnext : (gs.take (i + 1)).map (Auc.quotOf n gs.sum) = (gs.take i).map (Auc.quotOf n gs.sum) ++ [Auc.quotOf n gs.sum g] := by rw [List.take_add_one, hge]; simp
    simp only [gavelref07_Shares.l1]
    rw [if_pos (by omega), hlt, e1, rd_at hge]
    have hih := ih k (i + 1) (by omega) (by omega)
    rw [hnext] at hih
    by_cases hs : gs.sum > 0
    · have hqv : Auc.quotOf n gs.sum g = n * g / gs.sum := if_pos hs
      have hqb := quot_bound n gs.sum g h0 h1 hgb.1 hgb.2
      rw [if_pos hs, if_pos (by omega), if_neg (by omega), if_pos (by omega), w64 (x := n * g) (by omega) (by omega), Int.tdiv_eq_ediv_of_nonneg a0, ← hqv, w64 (by omega) (by omega)]
      exact hih
    · have hqv : Auc.quotOf n gs.sum g = 0 := if_neg hs
      rw [hqv] at hih
      rw [if_neg hs, if_pos (by omega)]
      exact hih

/-- Shares' first loop: all gaps may be. -/
theorem Shares_l0 (n : Int) (gs : List Int) (hlen : gs.length ≤ 16) (h0 : 0 ≤ n) (h1 : n ≤ 1048576) (hg : ∀ g ∈ gs, 0 ≤ g ∧ g ≤ 1048576) (hn : n ≤ gs.sum) : ∀ (d k i : Nat), i + d = gs.length → d + 60 < k →
    gavelref07_Shares.l0 k n gs i = some (Auc.shares n gs, true) := by
  intro d
  induction d with
  | zero =>
    intro k i hi hk
    obtain ⟨k, rfl⟩ : ∃ m, k = m + 2 := ⟨k - 2, by omega⟩
    simp only [gavelref07_Shares.l0]
    have hS := fun k hk => Sum_f gs 1048576 hg (by omega) (by omega) k hk
    rw [if_neg (by omega), if_neg (by omega), if_neg (by omega), if_neg (by omega), hS (k + 1) (by omega)]
    simp only [Option.bind_some]
    rw [decide_eq_false (by omega)]
    simp only [gavelref07_Shares.j1]
    rw [if_neg (by simp), hS k (by omega)]
    simp only [Option.bind_some]
    exact Shares_l1 n gs hlen h0 h1 hg gs.length k 0 (by omega) (by omega)
  | succ d ih =>
    intro k i hi hk
    obtain ⟨k, rfl⟩ : ∃ m, k = m + 1 := ⟨k - 1, by omega⟩
    obtain ⟨g, hge⟩ : ∃ g, gs[i]? = some g := ⟨_, List.getElem?_eq_getElem (by omega)⟩
    have hgb := hg g (List.mem_of_getElem? hge)
    have e1 : wrap64 ((i : Int) + 1) = ((i + 1 : Nat) : Int) := by rw [w64 (by omega) (by omega)]; omega
    simp only [gavelref07_Shares.l0]
    rw [if_pos (by omega), if_pos (by omega), rd_at hge, if_neg (by omega), if_neg (by omega), e1]
    exact ih k (i + 1) (by omega) (by omega)
theorem Shares_f (n : Int) (gs : List Int) (hlen : gs.length ≤ 16) (h0 : 0 ≤ n) (h1 : n ≤ 1048576) (hg : ∀ g ∈ gs, 0 ≤ g ∧ g ≤ 1048576) (hn : n ≤ gs.sum) (k : Nat) (hk : 80 < k) : gavelref07_Shares.f k n gs = some (Auc.shares n gs, true) :=
  Shares_l0 n gs hlen h0 h1 hg hn gs.length k 0 (by omega) (by omega)

/-- now, and more where there is more. -/
def plus : List Int → List Int → List Int
  | x :: xs, y :: ys => (x + y) :: plus xs ys
  | xs, _ => xs
theorem plus_nil (l : List Int) : plus l [] = l := by cases l <;> rfl
theorem plus_zip (l m : List Int) (h : l.length = m.length) : plus l m = List.zipWith (· + ·) l m := by
  induction l generalizing m with
  | nil => rfl
  | cons x l ih =>
    cases m with
    | nil => simp at h
    | cons y m => simp only [plus, List.zipWith_cons_cons]; rw [ih m (by simpa using h)]

section
variable {rs : List (List Int)} {a : Auc}
/-- Sale's last loop. -/
theorem Sale_l1 (h : RdAt rs a) (hok : a.Ok) (t price : Int) (more : List Int) (hm : ∀ x ∈ more, 0 ≤ x ∧ x ≤ 1099511627777) : ∀ (d k i : Nat) (pre : List Int), i + d = a.l.length → d < k → pre.length = i →
    gavelref07_Sale.l1 k (pre ++ List.replicate d 0) price more i a.supply a.start a.step t rs = some (price, pre ++ plus ((a.l.map (·.2)).drop i) (more.drop i), 0) := by
  have hlen := hok.len1
  intro d
  induction d with
  | zero =>
    intro k i pre hi hk hp
    obtain ⟨k, rfl⟩ : ∃ m, k = m + 1 := ⟨k - 1, by omega⟩
    simp only [gavelref07_Sale.l1, List.replicate_zero, List.append_nil]
    rw [if_neg (by omega), List.drop_eq_nil_of_le (by simp; omega)]
    simp [plus]
  | succ d ih =>
    intro k i pre hi hk hp
    obtain ⟨k, rfl⟩ : ∃ m, k = m + 1 := ⟨k - 1, by omega⟩
    obtain ⟨b, hb⟩ : ∃ b, a.l[i]? = some b := ⟨_, List.getElem?_eq_getElem (by omega)⟩
    have hbm := hok.now b (List.mem_of_getElem? hb)
    have hnow : (a.l.map (·.2))[i]? = some b.2 := by rw [List.getElem?_map, hb]; rfl
    have hlm : i < (a.l.map (·.2)).length := by simp; omega
    have hd : (a.l.map (·.2)).drop i = b.2 :: (a.l.map (·.2)).drop (i + 1) := by
      rw [List.drop_eq_getElem_cons hlm]
      have e := List.getElem?_eq_getElem hlm
      rw [hnow] at e
      rw [← Option.some.inj e]
    have e1 : wrap64 ((i : Int) + 1) = ((i + 1 : Nat) : Int) := by rw [w64 (by omega) (by omega)]; omega
    simp only [gavelref07_Sale.l1, List.replicate_succ]
    rw [if_pos (by simp; omega), Now_f _ _ _ _ h hok]
    simp only [Option.bind_some, List.length_map]
    rw [if_pos (by omega), if_pos (by omega), rd_at hnow, Int.toNat_natCast, set_app hp, e1, hd]
    by_cases hmo : (i : Int) < (more.length : Int)
    · obtain ⟨y, hy⟩ : ∃ y, more[i]? = some y := ⟨_, List.getElem?_eq_getElem (by omega)⟩
      have hyb := hm y (List.mem_of_getElem? hy)
      have hdm : more.drop i = y :: more.drop (i + 1) := by
        rw [List.drop_eq_getElem_cons (by omega)]
        have e := List.getElem?_eq_getElem (l := more) (i := i) (by omega)
        rw [hy] at e
        rw [← Option.some.inj e]
      have er : rd ((pre ++ [b.2]) ++ List.replicate d 0) (i : Int) = b.2 := by rw [List.append_assoc]; exact rd_app hp
      have es : ((pre ++ [b.2]) ++ List.replicate d 0).set i (b.2 + y) = (pre ++ [b.2 + y]) ++ List.replicate d 0 := by rw [List.append_assoc, List.singleton_append, set_app hp]
      rw [if_pos hmo, er, rd_at hy, w64 (x := b.2 + y) (by omega) (by omega), es, ih k (i + 1) (pre ++ [b.2 + y]) (by omega) (by omega) (by simp; omega), hdm]
      simp [plus]
    · rw [if_neg hmo, ih k (i + 1) (pre ++ [b.2]) (by omega) (by omega) (by simp; omega), List.drop_eq_nil_of_le (show more.length ≤ i by omega), List.drop_eq_nil_of_le (show more.length ≤ i + 1 by omega), plus_nil, plus_nil]
      simp

theorem gaps_get (i : Nat) {b : Int × Int} (hb : a.l[i]? = some b) : (a.wants i).1 - b.2 = b.1 - b.2 := by rw [wants_nat i hb]

/-- Sale's first loop, and what comes behind it: F is the rest, told of what the loop has made. -/
theorem Sale_l0 (h : RdAt rs a) (hok : a.Ok) (R : Option (Int × List Int × Int)) (N : Nat)
    (hfin : ∀ k, N < k → (if a.state = 2 then (some ((0 : Int), List.replicate a.l.length (0 : Int), (0 : Int))) else ((gavelref07_Now.f a.supply a.start a.step a.state rs).bind fun t232 => ((gavelref07_Sum.f k t232).bind fun t235 => ((gavelref07_Price.f a.supply a.start a.step a.state rs).bind fun t236 => (if (rs.length : Int) > 1 then (gavelref07_Sale.j1 k (List.replicate a.l.length 0) (a.l.map fun b => b.1 - b.2) (wrap64 (a.supply - t235)) t236 ([] : List Int) (decide ((wrap64 (a.supply - t235)) > 0)) a.supply a.start a.step a.state rs) else (gavelref07_Sale.j1 k (List.replicate a.l.length 0) (a.l.map fun b => b.1 - b.2) (wrap64 (a.supply - t235)) t236 ([] : List Int) false a.supply a.start a.step a.state rs)))))) = R) :
    ∀ (d k i : Nat), i + d = a.l.length → d + N + 1 < k →
    gavelref07_Sale.l0 k (List.replicate i 0) ((a.l.take i).map fun b => b.1 - b.2) i a.supply a.start a.step a.state rs = R := by
  have hlen := hok.len1
  intro d
  induction d with
  | zero =>
    intro k i hi hk
    obtain ⟨k, rfl⟩ : ∃ m, k = m + 1 := ⟨k - 1, by omega⟩
    obtain rfl : i = a.l.length := by omega
    rw [← hfin k (by omega)]
    simp only [gavelref07_Sale.l0]
    rw [Now_f _ _ _ _ h hok]
    simp only [Option.bind_some, List.length_map]
    rw [if_neg (by omega), List.take_length]
  | succ d ih =>
    intro k i hi hk
    obtain ⟨k, rfl⟩ : ∃ m, k = m + 1 := ⟨k - 1, by omega⟩
    obtain ⟨b, hb⟩ : ∃ b, a.l[i]? = some b := ⟨_, List.getElem?_eq_getElem (by omega)⟩
    have hbn := hok.now b (List.mem_of_getElem? hb)
    have hbw := hok.was b (List.mem_of_getElem? hb)
    have hnow : (a.l.map (·.2))[i]? = some b.2 := by rw [List.getElem?_map, hb]; rfl
    have e1 : wrap64 ((i : Int) + 1) = ((i + 1 : Nat) : Int) := by rw [w64 (by omega) (by omega)]; omega
    simp only [gavelref07_Sale.l0]
    rw [Now_f _ _ _ _ h hok]
    simp only [Option.bind_some, List.length_map, List.length_replicate]
    rw [if_pos (by omega), if_pos (by omega), Was_f _ _ _ _ h hok i (by omega)]
    simp only [Option.bind_some]
    rw [if_pos (by omega), if_pos (by omega), List.length_take, if_pos (by omega), rd_at hnow, wants_nat i hb, w64 (x := b.1 - b.2) (by omega) (by omega), e1]
    have e2 : (a.l.take i).map (fun b => b.1 - b.2) ++ [b.1 - b.2] = (a.l.take (i + 1)).map (fun b => b.1 - b.2) := by rw [List.take_add_one, hb]; simp
    rw [e2, ← List.replicate_succ']
    exact ih k (i + 1) (by omega) (by omega)

theorem gapsB (hok : a.Ok) (h1 : 1 < a.round) : ∀ x ∈ (a.l.map fun b => b.1 - b.2), 0 ≤ x ∧ x ≤ 1048576 := by
  intro x hx
  obtain ⟨b, hb, rfl⟩ := List.mem_map.1 hx
  have h2 := hok.falls h1 b hb
  have h3 := hok.was b hb
  have h4 := hok.now b hb
  omega
theorem gaps_sum (l : List (Int × Int)) : (l.map fun b => b.1 - b.2).sum = (l.map (·.1)).sum - (l.map (·.2)).sum := by
  induction l with
  | nil => rfl
  | cons x l ih => simp only [List.map_cons, List.sum_cons, ih]; omega

theorem Sale_f (h : RdAt rs a) (hok : a.Ok) (k : Nat) (hk : 200 < k) : gavelref07_Sale.f k a.supply a.start a.step a.state rs = some a.sale := by
  have hlen := hok.len1
  have hs1 := hok.supply1
  have hs0 := hok.supply0
  have hst := hok.state0
  have hst1 := hok.state1
  have hdl := hok.demand_le
  have hpr := hok.price_le
  have hp0 := hok.step0
  have hp1 := hok.step1
  unfold gavelref07_Sale.f
  by_cases h0 : a.state = 0
  · have e : a.sale = (0, [], 3) := by unfold Auc.sale; rw [if_pos h0]
    rw [if_pos h0, e]
  · rw [if_neg h0]
    refine Sale_l0 h hok _ 120 (fun k hk => ?_) a.l.length k 0 (by omega) (by omega)
    by_cases h2 : a.state = 2
    · have e : a.sale = (0, List.replicate a.l.length 0, 0) := by unfold Auc.sale; rw [if_neg h0, if_pos h2]
      rw [if_pos h2, e]
    · have hsold := hok.sold (by omega)
      have hd : (a.l.map (·.2)).sum = a.demand := rfl
      obtain ⟨k, rfl⟩ : ∃ m, k = m + 2 := ⟨k - 2, by omega⟩
      rw [if_neg h2, Now_f _ _ _ _ h hok]
      simp only [Option.bind_some]
      rw [Sum_f (a.l.map (·.2)) 1048576 (nowB hok) (by omega) (by rw [List.length_map]; omega) _ (by rw [List.length_map]; omega)]
      simp only [Option.bind_some]
      rw [Price_f _ _ h hok, hd]
      simp only [Option.bind_some]
      rw [w64 (x := a.supply - a.demand) (by omega) (by omega)]
      have plain : gavelref07_Sale.j1 (k + 2) (List.replicate a.l.length 0) (a.l.map fun b => b.1 - b.2) (a.supply - a.demand) a.price [] false a.supply a.start a.step a.state rs = some (a.price, a.l.map (·.2), 0) := by
        simp only [gavelref07_Sale.j1]
        rw [if_neg (by simp)]
        simp only [gavelref07_Sale.j2]
        have := Sale_l1 h hok a.state a.price [] (by simp) a.l.length k 0 [] (by omega) (by omega) rfl
        simpa [plus_nil] using this
      by_cases hr : a.round = 1
      · have e : a.sale = (a.price, a.l.map (·.2), 0) := by unfold Auc.sale; rw [if_neg h0, if_neg h2, if_pos (.inl hr)]
        rw [if_neg (by rw [h.len]; omega), plain, e]
      · have hr1 := hok.round0
        rw [if_pos (by rw [h.len]; omega)]
        by_cases hz : a.supply - a.demand = 0
        · have e : a.sale = (a.price, a.l.map (·.2), 0) := by unfold Auc.sale; rw [if_neg h0, if_neg h2, if_pos (.inr hz)]
          rw [decide_eq_false (by omega), plain, e]
        · have hov := hok.over (by omega)
          have hg := gapsB hok (by omega)
          have hgs := gaps_sum a.l
          have hlen2 : (a.l.map fun b => b.1 - b.2).length = a.l.length := List.length_map _
          have e : a.sale = (a.price - a.step, List.zipWith (· + ·) (a.l.map (·.2)) (Auc.shares (a.supply - a.demand) (a.l.map fun b => b.1 - b.2)), 0) := by
            unfold Auc.sale; rw [if_neg h0, if_neg h2, if_neg (by omega)]
          rw [decide_eq_true (by omega), e]
          simp only [gavelref07_Sale.j1]
          rw [if_pos trivial, Shares_f _ _ (by rw [hlen2]; omega) (by omega) (by omega) hg (by rw [hgs, hd]; omega) _ (by omega)]
          simp only [Option.bind_some, gavelref07_Sale.j2]
          rw [w64 (x := a.price - a.step) (by omega) (by omega)]
          have hsb := fun x hx => Auc.shares_bound (a.supply - a.demand) (a.l.map fun b => b.1 - b.2) (by omega) (by omega) hg x hx
          have := Sale_l1 h hok a.state (a.price - a.step) (Auc.shares (a.supply - a.demand) (a.l.map fun b => b.1 - b.2)) hsb a.l.length k 0 [] (by omega) (by omega) rfl
          simp only [List.nil_append, List.drop_zero] at this
          rw [show ((0 : Nat) : Int) = 0 from rfl] at this
          rw [this, plus_zip _ _ (by rw [Auc.shares_length]; simp)]

theorem strOf_nat (l : List Nat) : strOfNums (l.map fun (n : Nat) => (n : Int)) = strN l := strN_nums l
theorem Number_l0 : ∀ (m k : Nat) (x : Nat) (l : List Nat), x < 128 ^ (m + 1) → m < k → l.length + m < 100 → x < 9223372036854775808 → gavelref01_Number.l0 k x (l.map fun (n : Nat) => (n : Int)) = some (strN (l ++ numB x)) := by
  intro m
  induction m with
  | zero =>
    intro k x l hx hk hl _
    obtain ⟨k, rfl⟩ : ∃ m, k = m + 1 := ⟨k - 1, by omega⟩
    simp only [gavelref01_Number.l0, List.length_map]
    have e : ((x : Int)) % 256 = (x : Int) := by omega
    rw [if_neg (by omega), if_pos (by omega), e, numB_small (by omega)]
    have := strOf_nat (l ++ [x])
    simpa using this
  | succ m ih =>
    intro k x l hx hk hl hb
    obtain ⟨k, rfl⟩ : ∃ m, k = m + 1 := ⟨k - 1, by omega⟩
    simp only [gavelref01_Number.l0, List.length_map]
    by_cases h : (x : Int) > 127
    · have e1 : wrap64 (Int.tdiv x 128) = ((x / 128 : Nat) : Int) := by
        rw [Int.tdiv_eq_ediv_of_nonneg (by omega), w64 (by omega) (by omega)]; omega
      have e2 : (wrap64 (128 + (Int.tmod x 128))) % 256 = ((x % 128 + 128 : Nat) : Int) := by
        rw [Int.tmod_eq_emod_of_nonneg (by omega), w64 (by omega) (by omega)]; omega
      have e3 : (l.map fun (n : Nat) => (n : Int)) ++ [((x % 128 + 128 : Nat) : Int)] = (l ++ [x % 128 + 128]).map fun (n : Nat) => (n : Int) := by simp
      rw [if_pos h, if_pos (by omega), e1, e2, e3, ih k (x / 128) (l ++ [x % 128 + 128]) (by rw [Nat.div_lt_iff_lt_mul (by omega)]; rw [Nat.pow_succ] at hx; exact hx) (by omega) (by simp; omega) (by omega), numB_big (n := x) (by omega)]
      simp
    · rw [if_neg h, if_pos (by omega), numB_small (by omega)]
      have e : ((x : Int)) % 256 = (x : Int) := by omega
      rw [e]
      have := strOf_nat (l ++ [x])
      simpa using this
theorem Number_f (n : Int) (h0 : 0 ≤ n) (h1 : n ≤ 9007199254740992) (k : Nat) (hk : 10 < k) : gavelref01_Number.f k n = some (strN (numB n.toNat)) := by
  obtain ⟨m, rfl⟩ := Int.eq_ofNat_of_zero_le h0
  have := Number_l0 7 k m [] (by omega) (by omega) (by simp) (by omega)
  simpa [gavelref01_Number.f] using this

/-- The bytes of numbers, one behind the other. -/
theorem Bytes_l1 (ns : List Int) (hn : ∀ n ∈ ns, 0 ≤ n ∧ n ≤ 9007199254740992) (hl : ns.length ≤ 1000) : ∀ (d k i : Nat) (s : ByteArray), i + d = ns.length → d + 20 < k → s.size ≤ 8 * i →
    gavelref07_Bytes.l1 k ns s i = some (s ++ strN ((ns.drop i).flatMap fun n => numB n.toNat)) := by
  intro d
  induction d with
  | zero =>
    intro k i s hi hk hs
    obtain ⟨k, rfl⟩ : ∃ m, k = m + 1 := ⟨k - 1, by omega⟩
    simp only [gavelref07_Bytes.l1]
    rw [if_neg (by omega), List.drop_eq_nil_of_le (by omega)]
    simp [strN_nil]
  | succ d ih =>
    intro k i s hi hk hs
    obtain ⟨k, rfl⟩ : ∃ m, k = m + 1 := ⟨k - 1, by omega⟩
    obtain ⟨n, hni⟩ : ∃ n, ns[i]? = some n := ⟨_, List.getElem?_eq_getElem (by omega)⟩
    have hnb := hn n (List.mem_of_getElem? hni)
    have hdm : ns.drop i = n :: ns.drop (i + 1) := by
      rw [List.drop_eq_getElem_cons (by omega)]
      have e := List.getElem?_eq_getElem (l := ns) (i := i) (by omega)
      rw [hni] at e
      rw [← Option.some.inj e]
    have e1 : wrap64 ((i : Int) + 1) = ((i + 1 : Nat) : Int) := by rw [w64 (by omega) (by omega)]; omega
    have hb8 := numB_len8 n.toNat (by omega)
    have hsz : (strN (numB n.toNat)).size ≤ 8 := by rw [strN_size]; exact hb8
    simp only [gavelref07_Bytes.l1]
    rw [if_pos (by omega), if_pos (by omega), rd_at hni, Number_f n hnb.1 hnb.2 k (by omega)]
    simp only [Option.bind_some]
    rw [if_pos (by omega), e1, ih k (i + 1) (s ++ strN (numB n.toNat)) (by omega) (by omega) (by rw [ByteArray.size_append]; omega), hdm]
    simp only [List.flatMap_cons, strN_append]
    rw [ByteArray.append_assoc]
theorem Bytes_l0 (h : RdAt rs a) (hok : a.Ok) (hd : List Int) (hhd : hd.length = 6) (hb : ∀ n ∈ hd ++ a.l.flatMap (fun b => [b.1, b.2]), 0 ≤ n ∧ n ≤ 9007199254740992) : ∀ (d k i : Nat), i + d = a.l.length → d + 100 < k →
    gavelref07_Bytes.l0 k (hd ++ (a.l.take i).flatMap fun b => [b.1, b.2]) i a.supply a.start a.step a.state rs = some (strN ((hd ++ a.l.flatMap fun b => [b.1, b.2]).flatMap fun n => numB n.toNat)) := by
  have hlen := hok.len1
  have fl : ∀ l : List (Int × Int), (l.flatMap fun b => [b.1, b.2]).length = 2 * l.length := by
    intro l
    induction l with
    | nil => rfl
    | cons x l ih => simp only [List.flatMap_cons, List.length_append, ih, List.length_cons, List.length_nil]; omega
  intro d
  induction d with
  | zero =>
    intro k i hi hk
    obtain ⟨k, rfl⟩ : ∃ m, k = m + 1 := ⟨k - 1, by omega⟩
    obtain rfl : i = a.l.length := by omega
    simp only [gavelref07_Bytes.l0]
    rw [Now_f _ _ _ _ h hok]
    simp only [Option.bind_some, List.length_map]
    rw [if_neg (by omega), List.take_length]
    have := Bytes_l1 _ hb (by rw [List.length_append, fl]; omega) _ k 0 ⟨#[]⟩ (by rw [Nat.zero_add]) (by rw [List.length_append, fl]; omega) (by show (0 : Nat) ≤ _; omega)
    rw [List.drop_zero] at this
    rw [show ((0 : Nat) : Int) = 0 from rfl] at this
    rw [this]
    congr 1
  | succ d ih =>
    intro k i hi hk
    obtain ⟨k, rfl⟩ : ∃ m, k = m + 1 := ⟨k - 1, by omega⟩
    obtain ⟨b, hbi⟩ : ∃ b, a.l[i]? = some b := ⟨_, List.getElem?_eq_getElem (by omega)⟩
    have hnow : (a.l.map (·.2))[i]? = some b.2 := by rw [List.getElem?_map, hbi]; rfl
    have e1 : wrap64 ((i : Int) + 1) = ((i + 1 : Nat) : Int) := by rw [w64 (by omega) (by omega)]; omega
    have ht : (a.l.take i).length ≤ 16 := by rw [List.length_take]; omega
    simp only [gavelref07_Bytes.l0]
    rw [Now_f _ _ _ _ h hok]
    simp only [Option.bind_some, List.length_map]
    rw [if_pos (by omega), Was_f _ _ _ _ h hok i (by omega)]
    simp only [Option.bind_some]
    rw [if_pos (by omega), if_pos (by omega)]
    rw [if_pos (by simp only [List.length_append, fl, List.length_cons, List.length_nil]; omega), rd_at hnow, wants_nat i hbi, e1]
    have e2 : (hd ++ (a.l.take i).flatMap fun b => [b.1, b.2]) ++ [b.1, b.2] = hd ++ (a.l.take (i + 1)).flatMap fun b => [b.1, b.2] := by rw [List.take_add_one, hbi]; simp
    rw [e2]
    exact ih k (i + 1) (by omega) (by omega)
theorem Bytes_f (h : RdAt rs a) (hok : a.Ok) (k : Nat) (hk : 200 < k) : gavelref07_Bytes.f k a.supply a.start a.step a.state rs = some a.bytes := by
  have hlen := hok.len1
  unfold gavelref07_Bytes.f
  rw [Now_f _ _ _ _ h hok]
  simp only [Option.bind_some, List.length_map]
  have := Bytes_l0 h hok [a.supply, a.start, a.step, a.round, a.state, (a.l.length : Int)] rfl hok.nums_le a.l.length k 0 (by omega) (by omega)
  rw [h.len]
  exact this
theorem numbers_l0 (l : List Int) (hl : l.length ≤ 1000000) : ∀ (d k i : Nat), i + d = l.length → d < k → gavellaw07_numbers.l0 k l l i = some true := by
  intro d
  induction d with
  | zero =>
    intro k i hi hk
    obtain ⟨k, rfl⟩ : ∃ m, k = m + 1 := ⟨k - 1, by omega⟩
    simp only [gavellaw07_numbers.l0]
    rw [if_neg (by omega)]
  | succ d ih =>
    intro k i hi hk
    obtain ⟨k, rfl⟩ : ∃ m, k = m + 1 := ⟨k - 1, by omega⟩
    have e1 : wrap64 ((i : Int) + 1) = ((i + 1 : Nat) : Int) := by rw [w64 (by omega) (by omega)]; omega
    simp only [gavellaw07_numbers.l0]
    rw [if_pos (by omega), if_pos (by omega), if_pos (by omega), if_pos trivial, e1]
    exact ih k (i + 1) (by omega) (by omega)
theorem numbers_f (l : List Int) (hl : l.length ≤ 1000000) (k : Nat) (hk : l.length < k) : gavellaw07_numbers.f k l l = some true := by
  unfold gavellaw07_numbers.f
  rw [if_pos rfl]
  exact numbers_l0 l hl l.length k 0 (by omega) hk
end
end Go.Proofs.Ytpkongocabnciaa
