/- Terser laws for walks. Own work, over any program. -/
import Derived.Test.YtkhnponakhabdaaGreatDoorMSt
set_option linter.unusedVariables false
namespace Go.Proofs.YtkhnponakhabdaaGreatDoor
open Go Go.RowKit
section
variable {P : Program} {Q : Exit → Act → World → Prop} {n : Nat} {E E' : Env} {w w0 : World} {M : List Nat} {Γ G Rs : List Res}
theorem Yh {α : Type} {x y z : α} {b : Bool} {c : Operand} {cx cy : Code} (hb : ev E c = some (.bool b)) (h : (if b then x else y) = z) (ht : x = z → WP P Q n cx E w) (hf : y = z → WP P Q n cy E w) : WP P Q n (.cond c cx cy) E w :=
  WP_cond hb (fun e => ht (if_t e h)) (fun e => hf (if_f e h))
theorem O {α β : Type} {K : Prop} {o : Option α} {f : α → Option β} {r : β} (h : o.bind f = some r) (k : ∀ x, o = some x → f x = some r → K) : K := by
  obtain ⟨x, h1, h2⟩ := bind_some h
  exact k x h1 h2
theorem Fr.s {a : Act} (h : Fr a n E) (hc : covers E E' := by repeat' constructor) : Fr a n E' := h.sub hc
theorem E0 {f : FuncId} {fn : Func} {c : Code} {args : List Value} {R : Ending → World → Prop} (H : Ctx w G)
    (hf : P.funcs[f]? = some fn) (hn : fn.ntmps = n) (hb : fn.body = some c) (hl : Nat.ble args.length n = true)
    (h : Holds (([] : List Res).flatMap Res.own) w w [] G → WP P (bodyPost P fn R) n c (enterEnv 0 args) w) : Calls P f args.toArray w R :=
  calls_enter hf hn hb hl (h (Holds.startN (Rs := []) H))
theorem E1 {f : FuncId} {fn : Func} {c : Code} {args : List Value} {R : Ending → World → Prop} (H : Ctx w (Rs ++ G))
    (hf : P.funcs[f]? = some fn) (hn : fn.ntmps = n) (hb : fn.body = some c) (hl : Nat.ble args.length n = true)
    (h : Holds (Rs.flatMap Res.own) w w Rs G → WP P (bodyPost P fn R) n c (enterEnv 0 args) w) : Calls P f args.toArray w R :=
  calls_enter hf hn hb hl (h (Holds.startN H))
def El (M : List Nat) (w0 w : World) (Γ G : List Res) (t : Ty) (b o : Nat) (x : t.den) : Prop :=
  ∃ F, AtP w t b o x F ∧ ∀ (t' : Ty) (v' : Value) (x' : List t'.den) (F' : List Nat), Rep w (.slice t') [v'] x' F' → (∀ k ∈ F', k ∈ F) → Holds M w0 w (.ro t' v' x' :: Γ) G
theorem Holds.el {t : Ty} {v : Value} {xs : List t.den} (H : Holds M w0 w Γ G) (h : Has (Γ ++ G) t v xs) {k : Int} {u : t.den} (hg : geti xs k = some u) {b off cap : Nat} (hv : v = .slice (some ⟨b, off, none⟩) xs.length cap) : El M w0 w Γ G t b (off + k.toNat * t.size) u := H.at h hg hv
theorem El.f {t t' : Ty} {b o : Nat} {x : t.den × t'.den} (h : El M w0 w Γ G (.pair t t') b o x) : El M w0 w Γ G t b o x.1 := by
  obtain ⟨F, h1, h2⟩ := h
  obtain ⟨F1, h3, h4⟩ := h1.fst
  exact ⟨F1, h3, fun _ _ _ _ hr hk => h2 _ _ _ _ hr fun k hk' => h4 k (hk k hk')⟩
theorem El.s {t t' : Ty} {b o : Nat} {x : t.den × t'.den} (h : El M w0 w Γ G (.pair t t') b o x) : El M w0 w Γ G t' b (o + t.size) x.2 := by
  obtain ⟨F, h1, h2⟩ := h
  obtain ⟨F1, h3, h4⟩ := h1.snd
  exact ⟨F1, h3, fun _ _ _ _ hr hk => h2 _ _ _ _ hr fun k hk' => h4 k (hk k hk')⟩
end
section
variable {P : Program} {ops : Array Oper} {Q : Exit → Act → World → Prop} {n : Nat} {md : Md} {l l' : List Oper} {E E' : Env} {w w0 : World} {d : Nat} {x : Operand} {ty T : TypeId} {ps : String} {af : Array Edge} {g : Option (Nat × Bool)} {o : Oper} {M : List Nat} {Γ G : List Res}
theorem lI {ds : TypeDesc} {b o : Nat} {k : IntKind} {u : Int} (hT : P.underlying T = some ds) (ho : oneB ds = true) (hat : El M w0 w Γ G (.int k) b o u)
    (hw : wantedE ops E ⟨some d, .load T x, ty, ps, af, g⟩ = some true) (hx : ev E x = some (.pointer (some ⟨b, o, none⟩))) (hn : Nat.blt d n = true)
    (h : XL P ops n md l ((d, .int k u) :: E) w) : XL P ops n md (⟨some d, .load T x, ty, ps, af, g⟩ :: l) E w := by
  obtain ⟨F, h1, _⟩ := hat; exact XL_load_int hT ho h1 hw hx hn h
theorem lS {ds : TypeDesc} {b o : Nat} {u : List UInt8} (hT : P.underlying T = some ds) (ho : oneB ds = true) (hat : El M w0 w Γ G .str b o u)
    (hw : wantedE ops E ⟨some d, .load T x, ty, ps, af, g⟩ = some true) (hx : ev E x = some (.pointer (some ⟨b, o, none⟩))) (hn : Nat.blt d n = true)
    (h : XL P ops n md l ((d, strV u) :: E) w) : XL P ops n md (⟨some d, .load T x, ty, ps, af, g⟩ :: l) E w := by
  obtain ⟨F, h1, _⟩ := hat; exact XL_load_str hT ho h1 hw hx hn h
theorem lV {ds : TypeDesc} {b o : Nat} {t : Ty} {u : List t.den} (hT : P.underlying T = some ds) (ho : oneB ds = true) (hat : El M w0 w Γ G (.slice t) b o u)
    (hw : wantedE ops E ⟨some d, .load T x, ty, ps, af, g⟩ = some true) (hx : ev E x = some (.pointer (some ⟨b, o, none⟩))) (hn : Nat.blt d n = true)
    (h : ∀ v, Holds M w0 w (.ro t v u :: Γ) G → XL P ops n md l ((d, v) :: E) w) : XL P ops n md (⟨some d, .load T x, ty, ps, af, g⟩ :: l) E w := by
  obtain ⟨F, h1, h2⟩ := hat; exact XL_load hT ho rfl h1 hw hx hn fun v hr => h v (h2 _ _ _ _ hr fun _ h => h)
def skipsB (ops : Array Oper) (n : Nat) : List Oper → Env → Bool
  | [], _ => true
  | o :: l, E => match o.dst with
    | none => false
    | some d => Nat.blt d n && match wantedE ops E o with
      | some false => skipsB ops n l ((d, undef) :: E)
      | _ => false
def undefs : List Oper → Env → Env
  | [], E => E
  | o :: l, E => match o.dst with
    | none => undefs l E
    | some d => undefs l ((d, undef) :: E)
theorem wantedE_mono {b : Bool} (hc : Cov E E') (h : wantedE ops E' o = some b) : wantedE ops E o = some b := by
  unfold wantedE at h ⊢
  split at h
  · exact h
  · split at h
    · cases h
    · split at h
      · cases h
      · split at h
        · rename_i h2; rw [hc _ _ h2]; exact h
        · rename_i hne h2; rw [hc _ _ h2]; split
          · rename_i h3; exact absurd (Option.some.inj h3) (hne _)
          · exact h
          · rename_i h3; cases h3
        · cases h
theorem XL_skips : ∀ {l1 l2 : List Oper} {E E0 : Env}, Cov E E0 → skipsB ops n l1 E0 = true → XL P ops n md l2 (undefs l1 E) w → XL P ops n md (l1 ++ l2) E w
  | [], _, _, _, _, _, h => h
  | o :: l1, l2, E, E0, hc, hs, h => by
    unfold skipsB at hs
    unfold undefs at h
    cases hd : o.dst with
    | none => rw [hd] at hs; cases hs
    | some d =>
      rw [hd] at hs h
      simp only [Bool.and_eq_true] at hs
      have h2 := hs.2
      split at h2
      · rename_i hw
        exact XL_skip (wantedE_mono hc hw) hd hs.1 (XL_skips (Cov.same rfl hc) h2 h)
      · cases h2
theorem undefs_cov : ∀ {l : List Oper} {E E0 : Env}, Cov E E0 → (∀ o ∈ l, ∀ d, o.dst = some d → lk E0 d = none) → Cov (undefs l E) E0
  | [], _, _, h, _ => h
  | o :: l, E, E0, h, hf => by
    unfold undefs
    cases hd : o.dst with
    | none => exact undefs_cov h fun o ho => hf o (by simp [ho])
    | some d => exact undefs_cov (Cov.fresh (hf o (by simp) d hd) h) fun o ho => hf o (by simp [ho])
def freshB (E : Env) (l : List Oper) : Bool := l.all fun o => match o.dst with | none => true | some d => noKey E d
theorem freshB_of {l : List Oper} (h : freshB E l = true) : ∀ o ∈ l, ∀ d, o.dst = some d → lk E d = none := fun o ho d hd => by
  have h1 := List.all_eq_true.1 h o ho
  rw [hd] at h1
  exact noKey_of h1
theorem Go (k : Nat) {K0 : Act → Prop} {c res : Bool} {gs : Nat} {y : Operand} (hr : c = true → some true = some res)
    (hin : c = false → ∀ K : Act → Prop, (∀ (m : Nat) {e : Bool} {E1 : Env}, E1.drop m = E → ((E1.take m).map (·.1)).all (noKey E) = true → ev E1 y = some (.bool e) → some e = some res → XL P ops n (.quiet K) [⟨some d, .pick (.tmp gs) (.const (.bool true)) y, ty, ps, af, g⟩] E1 w) → XL P ops n (.quiet K) (l.take (k + 1)) E w)
    (h : XL P ops n (.quiet K0) l' ((d, .bool res) :: E) w) (hl : l.drop k = ⟨some d, .pick (.tmp gs) (.const (.bool true)) y, ty, ps, af, g⟩ :: l' := by exact rfl) (hg : lk E gs = some (.bool c) := by exact rfl) (hn : Nat.blt d n = true := by exact rfl)
    (hs : skipsB ops n (l.take k) [(gs, .bool true)] = true := by kernel_rfl) (hf : freshB E (l.take k) = true := by exact rfl) (hw : wantedE ops E ⟨some d, .pick (.tmp gs) (.const (.bool true)) y, ty, ps, af, g⟩ = some true := by exact rfl) : XL P ops n (.quiet K0) l E w := by
  have hd1 : l.drop (k + 1) = l' := by rw [← List.drop_drop, hl]; rfl
  have ht1 : l.take (k + 1) = l.take k ++ [⟨some d, .pick (.tmp gs) (.const (.bool true)) y, ty, ps, af, g⟩] := by
    have h0 : k < l.length := by
      rcases Nat.lt_or_ge k l.length with h' | h'
      · exact h'
      · rw [List.drop_eq_nil_of_le h'] at hl; cases hl
    rw [List.take_add_one]
    have h1 : l[k]? = some ⟨some d, .pick (.tmp gs) (.const (.bool true)) y, ty, ps, af, g⟩ := by
      have := congrArg (·[0]?) hl
      simpa using this
    rw [h1]; rfl
  refine XL_join (k + 1) d (.bool res) (hd1 ▸ h) fun md' hk hc => ?_
  obtain ⟨K, rfl⟩ := Md.quiet_of hk
  rcases btf c with hb | hb
  all_goals first
    | (refine hin hb K fun m e E1 he ha hv hr' => XL_q (wantedE_mono (cfn m (he ▸ ha) (he ▸ Cov.refl)) hw) (qt_pickF ((cfn m (he ▸ ha) (he ▸ Cov.refl)) _ _ hg) hb hv) rfl hn (hc _ (Cov.same (vb hr') (cfn m (he ▸ ha) (he ▸ Cov.refl)))))
    | (rw [ht1]
       have hcv : Cov (undefs (l.take k) E) E := undefs_cov Cov.refl (freshB_of hf)
       refine XL_skips (E0 := [(gs, .bool true)]) (fun j v hj => ?_) hs (XL_q (wantedE_mono hcv hw) (qt_pickT (hcv _ _ hg) hb rfl) rfl hn (hc _ (Cov.same (vb (hr hb)) hcv)))
       simp only [Proofs.YtkhnponakhabdaaGreatDoor.lk] at hj
       cases hbq : Nat.beq gs j with
       | false => rw [hbq] at hj; cases hj
       | true => rw [hbq] at hj; rw [← Nat.eq_of_beq_eq_true hbq, hg, hb]; exact hj)
theorem Ga (k : Nat) {K0 : Act → Prop} {c res : Bool} {gs : Nat} {y : Operand} (hr : c = false → some false = some res)
    (hin : c = true → ∀ K : Act → Prop, (∀ (m : Nat) {e : Bool} {E1 : Env}, E1.drop m = E → ((E1.take m).map (·.1)).all (noKey E) = true → ev E1 y = some (.bool e) → some e = some res → XL P ops n (.quiet K) [⟨some d, .pick (.tmp gs) y (.const (.bool false)), ty, ps, af, g⟩] E1 w) → XL P ops n (.quiet K) (l.take (k + 1)) E w)
    (h : XL P ops n (.quiet K0) l' ((d, .bool res) :: E) w) (hl : l.drop k = ⟨some d, .pick (.tmp gs) y (.const (.bool false)), ty, ps, af, g⟩ :: l' := by exact rfl) (hg : lk E gs = some (.bool c) := by exact rfl) (hn : Nat.blt d n = true := by exact rfl)
    (hs : skipsB ops n (l.take k) [(gs, .bool false)] = true := by kernel_rfl) (hf : freshB E (l.take k) = true := by exact rfl) (hw : wantedE ops E ⟨some d, .pick (.tmp gs) y (.const (.bool false)), ty, ps, af, g⟩ = some true := by exact rfl) : XL P ops n (.quiet K0) l E w := by
  have hd1 : l.drop (k + 1) = l' := by rw [← List.drop_drop, hl]; rfl
  have ht1 : l.take (k + 1) = l.take k ++ [⟨some d, .pick (.tmp gs) y (.const (.bool false)), ty, ps, af, g⟩] := by
    have h0 : k < l.length := by
      rcases Nat.lt_or_ge k l.length with h' | h'
      · exact h'
      · rw [List.drop_eq_nil_of_le h'] at hl; cases hl
    rw [List.take_add_one]
    have h1 : l[k]? = some ⟨some d, .pick (.tmp gs) y (.const (.bool false)), ty, ps, af, g⟩ := by
      have := congrArg (·[0]?) hl
      simpa using this
    rw [h1]; rfl
  refine XL_join (k + 1) d (.bool res) (hd1 ▸ h) fun md' hk hc => ?_
  obtain ⟨K, rfl⟩ := Md.quiet_of hk
  rcases btf c with hb | hb
  all_goals first
    | (refine hin hb K fun m e E1 he ha hv hr' => XL_q (wantedE_mono (cfn m (he ▸ ha) (he ▸ Cov.refl)) hw) (qt_pickT ((cfn m (he ▸ ha) (he ▸ Cov.refl)) _ _ hg) hb hv) rfl hn (hc _ (Cov.same (vb hr') (cfn m (he ▸ ha) (he ▸ Cov.refl)))))
    | (rw [ht1]
       have hcv : Cov (undefs (l.take k) E) E := undefs_cov Cov.refl (freshB_of hf)
       refine XL_skips (E0 := [(gs, .bool false)]) (fun j v hj => ?_) hs (XL_q (wantedE_mono hcv hw) (qt_pickF (hcv _ _ hg) hb rfl) rfl hn (hc _ (Cov.same (vb (hr hb)) hcv)))
       simp only [Proofs.YtkhnponakhabdaaGreatDoor.lk] at hj
       cases hbq : Nat.beq gs j with
       | false => rw [hbq] at hj; cases hj
       | true => rw [hbq] at hj; rw [← Nat.eq_of_beq_eq_true hbq, hg, hb]; exact hj)
theorem Ho (k : Nat) {K0 : Exit → Act → World → Prop} {c res : Bool} {gs : Nat} {y : Operand} (hr : c = true → some true = some res)
    (hin : c = false → ∀ K : Exit → Act → World → Prop, (∀ (m : Nat) {e : Bool} {E1 : Env}, E1.drop m = E → ((E1.take m).map (·.1)).all (noKey E) = true → ev E1 y = some (.bool e) → some e = some res → XL P ops n (.seq K) [⟨some d, .pick (.tmp gs) (.const (.bool true)) y, ty, ps, af, g⟩] E1 w) → XL P ops n (.seq K) (l.take (k + 1)) E w)
    (h : XL P ops n (.seq K0) l' ((d, .bool res) :: E) w) (hl : l.drop k = ⟨some d, .pick (.tmp gs) (.const (.bool true)) y, ty, ps, af, g⟩ :: l' := by exact rfl) (hg : lk E gs = some (.bool c) := by exact rfl) (hn : Nat.blt d n = true := by exact rfl)
    (hs : skipsB ops n (l.take k) [(gs, .bool true)] = true := by kernel_rfl) (hf : freshB E (l.take k) = true := by exact rfl) (hw : wantedE ops E ⟨some d, .pick (.tmp gs) (.const (.bool true)) y, ty, ps, af, g⟩ = some true := by exact rfl) : XL P ops n (.seq K0) l E w := by
  have hd1 : l.drop (k + 1) = l' := by rw [← List.drop_drop, hl]; rfl
  have ht1 : l.take (k + 1) = l.take k ++ [⟨some d, .pick (.tmp gs) (.const (.bool true)) y, ty, ps, af, g⟩] := by
    have h0 : k < l.length := by
      rcases Nat.lt_or_ge k l.length with h' | h'
      · exact h'
      · rw [List.drop_eq_nil_of_le h'] at hl; cases hl
    rw [List.take_add_one]
    have h1 : l[k]? = some ⟨some d, .pick (.tmp gs) (.const (.bool true)) y, ty, ps, af, g⟩ := by
      have := congrArg (·[0]?) hl
      simpa using this
    rw [h1]; rfl
  refine XL_join (k + 1) d (.bool res) (hd1 ▸ h) fun md' hk hc => ?_
  obtain ⟨K, rfl⟩ := Md.seq_of hk
  rcases btf c with hb | hb
  all_goals first
    | (refine hin hb K fun m e E1 he ha hv hr' => XL_q (wantedE_mono (cfn m (he ▸ ha) (he ▸ Cov.refl)) hw) (qt_pickF ((cfn m (he ▸ ha) (he ▸ Cov.refl)) _ _ hg) hb hv) rfl hn (hc _ (Cov.same (vb hr') (cfn m (he ▸ ha) (he ▸ Cov.refl)))))
    | (rw [ht1]
       have hcv : Cov (undefs (l.take k) E) E := undefs_cov Cov.refl (freshB_of hf)
       refine XL_skips (E0 := [(gs, .bool true)]) (fun j v hj => ?_) hs (XL_q (wantedE_mono hcv hw) (qt_pickT (hcv _ _ hg) hb rfl) rfl hn (hc _ (Cov.same (vb (hr hb)) hcv)))
       simp only [Proofs.YtkhnponakhabdaaGreatDoor.lk] at hj
       cases hbq : Nat.beq gs j with
       | false => rw [hbq] at hj; cases hj
       | true => rw [hbq] at hj; rw [← Nat.eq_of_beq_eq_true hbq, hg, hb]; exact hj)
theorem Ha (k : Nat) {K0 : Exit → Act → World → Prop} {c res : Bool} {gs : Nat} {y : Operand} (hr : c = false → some false = some res)
    (hin : c = true → ∀ K : Exit → Act → World → Prop, (∀ (m : Nat) {e : Bool} {E1 : Env}, E1.drop m = E → ((E1.take m).map (·.1)).all (noKey E) = true → ev E1 y = some (.bool e) → some e = some res → XL P ops n (.seq K) [⟨some d, .pick (.tmp gs) y (.const (.bool false)), ty, ps, af, g⟩] E1 w) → XL P ops n (.seq K) (l.take (k + 1)) E w)
    (h : XL P ops n (.seq K0) l' ((d, .bool res) :: E) w) (hl : l.drop k = ⟨some d, .pick (.tmp gs) y (.const (.bool false)), ty, ps, af, g⟩ :: l' := by exact rfl) (hg : lk E gs = some (.bool c) := by exact rfl) (hn : Nat.blt d n = true := by exact rfl)
    (hs : skipsB ops n (l.take k) [(gs, .bool false)] = true := by kernel_rfl) (hf : freshB E (l.take k) = true := by exact rfl) (hw : wantedE ops E ⟨some d, .pick (.tmp gs) y (.const (.bool false)), ty, ps, af, g⟩ = some true := by exact rfl) : XL P ops n (.seq K0) l E w := by
  have hd1 : l.drop (k + 1) = l' := by rw [← List.drop_drop, hl]; rfl
  have ht1 : l.take (k + 1) = l.take k ++ [⟨some d, .pick (.tmp gs) y (.const (.bool false)), ty, ps, af, g⟩] := by
    have h0 : k < l.length := by
      rcases Nat.lt_or_ge k l.length with h' | h'
      · exact h'
      · rw [List.drop_eq_nil_of_le h'] at hl; cases hl
    rw [List.take_add_one]
    have h1 : l[k]? = some ⟨some d, .pick (.tmp gs) y (.const (.bool false)), ty, ps, af, g⟩ := by
      have := congrArg (·[0]?) hl
      simpa using this
    rw [h1]; rfl
  refine XL_join (k + 1) d (.bool res) (hd1 ▸ h) fun md' hk hc => ?_
  obtain ⟨K, rfl⟩ := Md.seq_of hk
  rcases btf c with hb | hb
  all_goals first
    | (refine hin hb K fun m e E1 he ha hv hr' => XL_q (wantedE_mono (cfn m (he ▸ ha) (he ▸ Cov.refl)) hw) (qt_pickT ((cfn m (he ▸ ha) (he ▸ Cov.refl)) _ _ hg) hb hv) rfl hn (hc _ (Cov.same (vb hr') (cfn m (he ▸ ha) (he ▸ Cov.refl)))))
    | (rw [ht1]
       have hcv : Cov (undefs (l.take k) E) E := undefs_cov Cov.refl (freshB_of hf)
       refine XL_skips (E0 := [(gs, .bool false)]) (fun j v hj => ?_) hs (XL_q (wantedE_mono hcv hw) (qt_pickF (hcv _ _ hg) hb rfl) rfl hn (hc _ (Cov.same (vb (hr hb)) hcv)))
       simp only [Proofs.YtkhnponakhabdaaGreatDoor.lk] at hj
       cases hbq : Nat.beq gs j with
       | false => rw [hbq] at hj; cases hj
       | true => rw [hbq] at hj; rw [← Nat.eq_of_beq_eq_true hbq, hg, hb]; exact hj)
theorem os {c e : Bool} (h : c = true) : some true = some (c || e) := by rw [h]; rfl
theorem oi {c e : Bool} (h : c = false) : some e = some (c || e) := by rw [h]; rfl
theorem an {c e : Bool} (h : c = false) : some false = some (c && e) := by rw [h]; rfl
theorem ai {c e : Bool} (h : c = true) : some e = some (c && e) := by rw [h]; rfl
theorem Qc {K : Act → Prop} {M : List Nat} {f : FuncId} {args : List Operand} {vs : List Value} {tys : Array TypeId} {v : Value}
    (hw : wantedE ops E ⟨some d, .call ⟨.value (.func f), args.toArray, tys⟩, ty, ps, af, g⟩ = some true) (hvs : evs E args = some vs)
    (hf : Callable P f) (H : Holds M w0 w Γ G) (hc : ∀ w', Ctx w' (Γ ++ G) → Calls P f vs.toArray w' (fun e w'' => e = .returned v ∧ Holds (([] : List Res).flatMap Res.own) w' w'' [] (Γ ++ G))) (hn : Nat.blt d n = true) (h : XL P ops n (.quiet K) l ((d, v) :: E) w) :
    XL P ops n (.quiet K) (⟨some d, .call ⟨.value (.func f), args.toArray, tys⟩, ty, ps, af, g⟩ :: l) E w :=
  QC hw hvs hf (fun w' hb => hc w' (H.grow hb).ctx) hn h
theorem V0  {V : Value} {K : World → Prop} {f : FuncId} {args : List Operand} {vs : List Value} {tys : Array TypeId}
    (hw : wantedE ops E ⟨some d, .call ⟨.value (.func f), args.toArray, tys⟩, ty, ps, af, g⟩ = some true) (hvs : evs E args = some vs)
    (hf : Callable P f) (hc : Calls P f vs.toArray w fun e w' => e = .returned (V) ∧ K w') (hn : Nat.blt d n = true) (h : ∀ w', K w' → XL P ops n (.seq Q) l ((d, V) :: E) w') :
    XL P ops n (.seq Q) (⟨some d, .call ⟨.value (.func f), args.toArray, tys⟩, ty, ps, af, g⟩ :: l) E w :=
  WL_call hw hvs hf hc hn fun e w' hR => by obtain ⟨rfl, hK⟩ := hR; exact ⟨_, rfl, h w' hK⟩
theorem V1 {α1 : Type} {V : α1 → Value} {K : α1 → World → Prop} {f : FuncId} {args : List Operand} {vs : List Value} {tys : Array TypeId}
    (hw : wantedE ops E ⟨some d, .call ⟨.value (.func f), args.toArray, tys⟩, ty, ps, af, g⟩ = some true) (hvs : evs E args = some vs)
    (hf : Callable P f) (hc : Calls P f vs.toArray w fun e w' => ∃ v1, e = .returned (V v1) ∧ K v1 w') (hn : Nat.blt d n = true) (h : ∀ v1 : α1, ∀ w', K v1 w' → XL P ops n (.seq Q) l ((d, V v1) :: E) w') :
    XL P ops n (.seq Q) (⟨some d, .call ⟨.value (.func f), args.toArray, tys⟩, ty, ps, af, g⟩ :: l) E w :=
  WL_call hw hvs hf hc hn fun e w' hR => by obtain ⟨v1, rfl, hK⟩ := hR; exact ⟨_, rfl, h v1 w' hK⟩
theorem V2 {α1 : Type} {α2 : Type} {V : α1 → α2 → Value} {K : α1 → α2 → World → Prop} {f : FuncId} {args : List Operand} {vs : List Value} {tys : Array TypeId}
    (hw : wantedE ops E ⟨some d, .call ⟨.value (.func f), args.toArray, tys⟩, ty, ps, af, g⟩ = some true) (hvs : evs E args = some vs)
    (hf : Callable P f) (hc : Calls P f vs.toArray w fun e w' => ∃ v1 v2, e = .returned (V v1 v2) ∧ K v1 v2 w') (hn : Nat.blt d n = true) (h : ∀ v1 : α1, ∀ v2 : α2, ∀ w', K v1 v2 w' → XL P ops n (.seq Q) l ((d, V v1 v2) :: E) w') :
    XL P ops n (.seq Q) (⟨some d, .call ⟨.value (.func f), args.toArray, tys⟩, ty, ps, af, g⟩ :: l) E w :=
  WL_call hw hvs hf hc hn fun e w' hR => by obtain ⟨v1, v2, rfl, hK⟩ := hR; exact ⟨_, rfl, h v1 v2 w' hK⟩
theorem V3 {α1 : Type} {α2 : Type} {α3 : Type} {V : α1 → α2 → α3 → Value} {K : α1 → α2 → α3 → World → Prop} {f : FuncId} {args : List Operand} {vs : List Value} {tys : Array TypeId}
    (hw : wantedE ops E ⟨some d, .call ⟨.value (.func f), args.toArray, tys⟩, ty, ps, af, g⟩ = some true) (hvs : evs E args = some vs)
    (hf : Callable P f) (hc : Calls P f vs.toArray w fun e w' => ∃ v1 v2 v3, e = .returned (V v1 v2 v3) ∧ K v1 v2 v3 w') (hn : Nat.blt d n = true) (h : ∀ v1 : α1, ∀ v2 : α2, ∀ v3 : α3, ∀ w', K v1 v2 v3 w' → XL P ops n (.seq Q) l ((d, V v1 v2 v3) :: E) w') :
    XL P ops n (.seq Q) (⟨some d, .call ⟨.value (.func f), args.toArray, tys⟩, ty, ps, af, g⟩ :: l) E w :=
  WL_call hw hvs hf hc hn fun e w' hR => by obtain ⟨v1, v2, v3, rfl, hK⟩ := hR; exact ⟨_, rfl, h v1 v2 v3 w' hK⟩
theorem V4 {α1 : Type} {α2 : Type} {α3 : Type} {α4 : Type} {V : α1 → α2 → α3 → α4 → Value} {K : α1 → α2 → α3 → α4 → World → Prop} {f : FuncId} {args : List Operand} {vs : List Value} {tys : Array TypeId}
    (hw : wantedE ops E ⟨some d, .call ⟨.value (.func f), args.toArray, tys⟩, ty, ps, af, g⟩ = some true) (hvs : evs E args = some vs)
    (hf : Callable P f) (hc : Calls P f vs.toArray w fun e w' => ∃ v1 v2 v3 v4, e = .returned (V v1 v2 v3 v4) ∧ K v1 v2 v3 v4 w') (hn : Nat.blt d n = true) (h : ∀ v1 : α1, ∀ v2 : α2, ∀ v3 : α3, ∀ v4 : α4, ∀ w', K v1 v2 v3 v4 w' → XL P ops n (.seq Q) l ((d, V v1 v2 v3 v4) :: E) w') :
    XL P ops n (.seq Q) (⟨some d, .call ⟨.value (.func f), args.toArray, tys⟩, ty, ps, af, g⟩ :: l) E w :=
  WL_call hw hvs hf hc hn fun e w' hR => by obtain ⟨v1, v2, v3, v4, rfl, hK⟩ := hR; exact ⟨_, rfl, h v1 v2 v3 v4 w' hK⟩
theorem V5 {α1 : Type} {α2 : Type} {α3 : Type} {α4 : Type} {α5 : Type} {V : α1 → α2 → α3 → α4 → α5 → Value} {K : α1 → α2 → α3 → α4 → α5 → World → Prop} {f : FuncId} {args : List Operand} {vs : List Value} {tys : Array TypeId}
    (hw : wantedE ops E ⟨some d, .call ⟨.value (.func f), args.toArray, tys⟩, ty, ps, af, g⟩ = some true) (hvs : evs E args = some vs)
    (hf : Callable P f) (hc : Calls P f vs.toArray w fun e w' => ∃ v1 v2 v3 v4 v5, e = .returned (V v1 v2 v3 v4 v5) ∧ K v1 v2 v3 v4 v5 w') (hn : Nat.blt d n = true) (h : ∀ v1 : α1, ∀ v2 : α2, ∀ v3 : α3, ∀ v4 : α4, ∀ v5 : α5, ∀ w', K v1 v2 v3 v4 v5 w' → XL P ops n (.seq Q) l ((d, V v1 v2 v3 v4 v5) :: E) w') :
    XL P ops n (.seq Q) (⟨some d, .call ⟨.value (.func f), args.toArray, tys⟩, ty, ps, af, g⟩ :: l) E w :=
  WL_call hw hvs hf hc hn fun e w' hR => by obtain ⟨v1, v2, v3, v4, v5, rfl, hK⟩ := hR; exact ⟨_, rfl, h v1 v2 v3 v4 v5 w' hK⟩
theorem Qn {M : List Nat} {R : Act → World → Prop} (H : Holds M w0 w Γ G) (k : ∀ a, Fr a n E → ∀ w', Holds M w0 w' Γ G → R a w') : XL P ops n (.quiet (fun a => ∀ w', Below w.heap.size w w' → R a w')) [] E w := QL_nil fun a ha w' hb => k a ha w' (H.grow hb)
theorem lA {b : Nat} {Tb : TypeId} {cs : List Value} {ds : TypeDesc} (hB : Bx w b Tb cs) (hT : P.underlying T = some ds) (ho : oneB ds = false) (hi : (P.info? T).map (·.size) = some cs.length)
    (hw : wantedE ops E ⟨some d, .load T x, ty, ps, af, g⟩ = some true) (hx : ev E x = some (.pointer (some ⟨b, 0, none⟩))) (hn : Nat.blt d n = true)
    (h : XL P ops n md l ((d, .agg cs.toArray) :: E) w) : XL P ops n md (⟨some d, .load T x, ty, ps, af, g⟩ :: l) E w := XL_load_bxA hT ho hi hB hw hx hn h
def plainC : (t : Ty) → t.den → Option (List Value)
  | .int k, n => some [.int k n]
  | .bool, b => some [.bool b]
  | .str, s => some [strV s]
  | .pair a b, x => match plainC a x.1, plainC b x.2 with
    | some c1, some c2 => some (c1 ++ c2)
    | _, _ => none
  | .slice _, _ => none
theorem plainC_rep : ∀ (t : Ty) {cs cs' : List Value} {u : t.den} {F : List Nat}, Rep w t cs' u F → plainC t u = some cs → cs' = cs
  | .int k, cs, cs', u, F, hr, h => by obtain ⟨rfl, _⟩ := hr; exact Option.some.inj h
  | .bool, cs, cs', u, F, hr, h => by obtain ⟨rfl, _⟩ := hr; exact Option.some.inj h
  | .str, cs, cs', u, F, hr, h => by obtain ⟨rfl, _⟩ := hr; exact Option.some.inj h
  | .slice t, cs, cs', u, F, hr, h => by cases h
  | .pair a b, cs, cs', u, F, hr, h => by
    obtain ⟨c1, c2, F1, F2, rfl, _, h1, h2⟩ := hr
    unfold plainC at h
    split at h
    · rename_i d1 d2 e1 e2
      rw [plainC_rep a h1 e1, plainC_rep b h2 e2]
      exact Option.some.inj h
    · cases h
theorem lP {ds : TypeDesc} {b o' : Nat} {t : Ty} {u : t.den} (cs : List Value) (hT : P.underlying T = some ds) (ho : oneB ds = false) (hi : (P.info? T).map (·.size) = some t.size) (hat : El M w0 w Γ G t b o' u) (hp : plainC t u = some cs)
    (hw : wantedE ops E ⟨some d, .load T x, ty, ps, af, g⟩ = some true) (hx : ev E x = some (.pointer (some ⟨b, o', none⟩))) (hn : Nat.blt d n = true)
    (h : XL P ops n md l ((d, .agg cs.toArray) :: E) w) : XL P ops n md (⟨some d, .load T x, ty, ps, af, g⟩ :: l) E w := by
  obtain ⟨F, h1, _⟩ := hat
  exact XL_load_agg hT ho hi h1 hw hx hn fun cs' hr => by rw [plainC_rep t hr hp]; exact h
theorem qe {k : Int} {kk : IntKind} {e : TypeId} {t : Ty} {v : Value} {xs : List t.den} {u : t.den} {y : Operand} (H : Holds M w0 w Γ G) (hh : Has (Γ ++ G) t v xs) (hg : geti xs k = some u) (hT : P.underlying T = some (.slice e)) (hi : (P.info? e).map (·.size) = some t.size)
    (hq : (wantedE ops E ⟨some d, .indexAddr T x y, ty, ps, af, g⟩, ev E x, ev E y, Nat.blt d n) = (some true, some v, some (.int kk k), true))
    (h : ∀ b o, El M w0 w Γ G t b o u → XL P ops n md l ((d, .pointer (some ⟨b, o, none⟩)) :: E) w) : XL P ops n md (⟨some d, .indexAddr T x y, ty, ps, af, g⟩ :: l) E w := by
  simp only [Prod.mk.injEq] at hq
  exact XL_indexH H.ctx hh hg hT hi hq.1 hq.2.1 hq.2.2.1 hq.2.2.2 fun b off cap hv => h b _ (H.el hh hg hv)
theorem je {k : Int} {kk : IntKind} {e : TypeId} {t : Ty} {v : Value} {xs : List t.den} {u : t.den} {y : Operand} {c b0 : Bool} (H : Holds M w0 w Γ G) (hh : Has (Γ ++ G) t v xs) (hg : geti xs k = some u) (hT : P.underlying T = some (.slice e)) (hi : (P.info? e).map (·.size) = some t.size)
    (hc : c = b0) (hq : (wantedE ops E ⟨some d, .indexAddr T x y, ty, ps, af, g⟩, ev E x, ev E y, Nat.blt d n) = (some (bif c then b0 else bif b0 then false else true), some v, some (.int kk k), true))
    (h : ∀ b o, El M w0 w Γ G t b o u → XL P ops n md l ((d, .pointer (some ⟨b, o, none⟩)) :: E) w) : XL P ops n md (⟨some d, .indexAddr T x y, ty, ps, af, g⟩ :: l) E w := by
  simp only [Prod.mk.injEq] at hq
  exact XL_indexH H.ctx hh hg hT hi (w_take hq.1 hc) hq.2.1 hq.2.2.1 hq.2.2.2 fun b off cap hv => h b _ (H.el hh hg hv)
theorem S1 {c : Code} {a : Act} {Q : Exit → Act → World → Prop} (ha : Fr a n E) (h : WP P Q n c E w) : c.wp P Q a w := h a ha
end
section
variable {P : Program} {ops : Array Oper} {n : Nat} {E : Env} {o : Oper} {d i : Nat} {w : World} {Mid : Act → World → Prop} {S : World → Prop} {tl fuel : Nat} {listed : Array Bool}
theorem XK (i : Nat) (hk : okT ops listed tl i = true) (h : XC P ops n Mid S tl fuel listed E w) : XC P ops n Mid S tl fuel listed E w := h
end
section
variable {P : Program} {ops : Array Oper} {Q : Exit → Act → World → Prop} {n : Nat} {md : Md} {l : List Oper} {E : Env} {w w0 : World} {d : Nat} {x y : Operand} {ty T S : TypeId} {ps : String} {af : Array Edge} {g : Option (Nat × Bool)} {o : Oper} {M : List Nat} {Γ G : List Res} {v : Value} {t : Ty} {xs : List t.den} {e : TypeId} {c b0 : Bool}
theorem qm (hq : (wantedE ops E ⟨some d, .move x, ty, ps, af, g⟩, ev E x, Nat.blt d n) = (some true, some v, true)) (h : XL P ops n md l ((d, v) :: E) w) : XL P ops n md (⟨some d, .move x, ty, ps, af, g⟩ :: l) E w := by
  simp only [Prod.mk.injEq] at hq
  exact qM hq.1 hq.2.1 hq.2.2 h
theorem jm (hc : c = b0) (hq : (wantedE ops E ⟨some d, .move x, ty, ps, af, g⟩, ev E x, Nat.blt d n) = (some (bif c then b0 else bif b0 then false else true), some v, true)) (h : XL P ops n md l ((d, v) :: E) w) : XL P ops n md (⟨some d, .move x, ty, ps, af, g⟩ :: l) E w := by
  simp only [Prod.mk.injEq] at hq
  exact qM (w_take hq.1 hc) hq.2.1 hq.2.2 h
theorem qa (hq : (wantedE ops E ⟨some d, .assign x, ty, ps, af, g⟩, ev E x, Nat.blt d n) = (some true, some v, true)) (h : XL P ops n md l ((d, v) :: E) w) : XL P ops n md (⟨some d, .assign x, ty, ps, af, g⟩ :: l) E w := by
  simp only [Prod.mk.injEq] at hq
  exact qA hq.1 hq.2.1 hq.2.2 h
theorem qn {a : Addr} (hq : (wantedE ops E ⟨some d, .nilCheck x, ty, ps, af, g⟩, ev E x, Nat.blt d n) = (some true, some (.pointer (some a)), true)) (h : XL P ops n md l ((d, .pointer (some a)) :: E) w) : XL P ops n md (⟨some d, .nilCheck x, ty, ps, af, g⟩ :: l) E w := by
  simp only [Prod.mk.injEq] at hq
  exact qN hq.1 hq.2.1 hq.2.2 h
theorem jn {a : Addr} (hc : c = b0) (hq : (wantedE ops E ⟨some d, .nilCheck x, ty, ps, af, g⟩, ev E x, Nat.blt d n) = (some (bif c then b0 else bif b0 then false else true), some (.pointer (some a)), true)) (h : XL P ops n md l ((d, .pointer (some a)) :: E) w) : XL P ops n md (⟨some d, .nilCheck x, ty, ps, af, g⟩ :: l) E w := by
  simp only [Prod.mk.injEq] at hq
  exact qN (w_take hq.1 hc) hq.2.1 hq.2.2 h
theorem qf {fs : Array Field} {i : Nat} {fo b o' : Nat} (hT : P.underlying S = some (.struct fs)) (hf : (fs[i]?).map (fun f => (f.type, f.offset)) = some (T, fo)) (hs : (P.info? T).map (fun i => Nat.beq i.size 0) = some false) (hq : (wantedE ops E ⟨some d, .fieldAddr S x i, ty, ps, af, g⟩, ev E x, Nat.blt d n) = (some true, some (.pointer (some ⟨b, o', none⟩)), true)) (h : XL P ops n md l ((d, .pointer (some ⟨b, o' + fo, none⟩)) :: E) w) : XL P ops n md (⟨some d, .fieldAddr S x i, ty, ps, af, g⟩ :: l) E w := by
  simp only [Prod.mk.injEq] at hq
  exact qF hT hf hs hq.1 hq.2.1 hq.2.2 h
theorem jf {fs : Array Field} {i : Nat} {fo b o' : Nat} (hT : P.underlying S = some (.struct fs)) (hf : (fs[i]?).map (fun f => (f.type, f.offset)) = some (T, fo)) (hs : (P.info? T).map (fun i => Nat.beq i.size 0) = some false) (hc : c = b0) (hq : (wantedE ops E ⟨some d, .fieldAddr S x i, ty, ps, af, g⟩, ev E x, Nat.blt d n) = (some (bif c then b0 else bif b0 then false else true), some (.pointer (some ⟨b, o', none⟩)), true)) (h : XL P ops n md l ((d, .pointer (some ⟨b, o' + fo, none⟩)) :: E) w) : XL P ops n md (⟨some d, .fieldAddr S x i, ty, ps, af, g⟩ :: l) E w := by
  simp only [Prod.mk.injEq] at hq
  exact qF hT hf hs (w_take hq.1 hc) hq.2.1 hq.2.2 h
theorem ql {b i : Nat} {Tb : TypeId} {cs : List Value} {u : Value} {ds : TypeDesc} (hT : P.underlying T = some ds) (H : Holds M w0 w (.bx b Tb cs :: Γ) G) (hq : (wantedE ops E ⟨some d, .load T x, ty, ps, af, g⟩, oneB ds, ev E x, cs[i]?, Nat.blt d n) = (some true, true, some (.pointer (some ⟨b, i, none⟩)), some u, true)) (h : XL P ops n md l ((d, u) :: E) w) : XL P ops n md (⟨some d, .load T x, ty, ps, af, g⟩ :: l) E w := by
  simp only [Prod.mk.injEq] at hq
  exact XL_load_bx hT hq.2.1 (Holds.bx H) hq.2.2.2.1 hq.1 hq.2.2.1 hq.2.2.2.2 h
theorem jl {b i : Nat} {Tb : TypeId} {cs : List Value} {u : Value} {ds : TypeDesc} (hT : P.underlying T = some ds) (H : Holds M w0 w (.bx b Tb cs :: Γ) G) (hc : c = b0) (hq : (wantedE ops E ⟨some d, .load T x, ty, ps, af, g⟩, oneB ds, ev E x, cs[i]?, Nat.blt d n) = (some (bif c then b0 else bif b0 then false else true), true, some (.pointer (some ⟨b, i, none⟩)), some u, true)) (h : XL P ops n md l ((d, u) :: E) w) : XL P ops n md (⟨some d, .load T x, ty, ps, af, g⟩ :: l) E w := by
  simp only [Prod.mk.injEq] at hq
  exact XL_load_bx hT hq.2.1 (Holds.bx H) hq.2.2.2.1 (w_take hq.1 hc) hq.2.2.1 hq.2.2.2.2 h
theorem qz (H : Ctx w Γ) (hh : Has Γ t v xs) (hT : P.underlying T = some (.slice e)) (hq : (wantedE ops E ⟨some d, .call ⟨.builtin .len, #[x], #[T]⟩, ty, ps, af, g⟩, ev E x, Nat.blt d n) = (some true, some v, true)) (h : XL P ops n md l ((d, i64 xs.length) :: E) w) : XL P ops n md (⟨some d, .call ⟨.builtin .len, #[x], #[T]⟩, ty, ps, af, g⟩ :: l) E w := by
  simp only [Prod.mk.injEq] at hq
  exact XL_lenH H hh hT hq.1 hq.2.1 hq.2.2 h
theorem jz (H : Ctx w Γ) (hh : Has Γ t v xs) (hT : P.underlying T = some (.slice e)) (hc : c = b0) (hq : (wantedE ops E ⟨some d, .call ⟨.builtin .len, #[x], #[T]⟩, ty, ps, af, g⟩, ev E x, Nat.blt d n) = (some (bif c then b0 else bif b0 then false else true), some v, true)) (h : XL P ops n md l ((d, i64 xs.length) :: E) w) : XL P ops n md (⟨some d, .call ⟨.builtin .len, #[x], #[T]⟩, ty, ps, af, g⟩ :: l) E w := by
  simp only [Prod.mk.injEq] at hq
  exact XL_lenH H hh hT (w_take hq.1 hc) hq.2.1 hq.2.2 h
theorem qb {k : Int} {kk : IntKind} {u : t.den} (H : Ctx w Γ) (hh : Has Γ t v xs) (hg : geti xs k = some u) (hT : P.underlying T = some (.slice e)) (hi : (P.info? e).map (·.size) = some t.size) (hq : (wantedE ops E ⟨some d, .indexAddr T x y, ty, ps, af, g⟩, ev E x, ev E y, Nat.blt d n) = (some true, some v, some (.int kk k), true)) (h : ∀ b off cap, v = .slice (some ⟨b, off, none⟩) xs.length cap → XL P ops n md l ((d, .pointer (some ⟨b, off + k.toNat * t.size, none⟩)) :: E) w) : XL P ops n md (⟨some d, .indexAddr T x y, ty, ps, af, g⟩ :: l) E w := by
  simp only [Prod.mk.injEq] at hq
  exact XL_indexH H hh hg hT hi hq.1 hq.2.1 hq.2.2.1 hq.2.2.2 h
theorem jb {k : Int} {kk : IntKind} {u : t.den} (H : Ctx w Γ) (hh : Has Γ t v xs) (hg : geti xs k = some u) (hT : P.underlying T = some (.slice e)) (hi : (P.info? e).map (·.size) = some t.size) (hc : c = b0) (hq : (wantedE ops E ⟨some d, .indexAddr T x y, ty, ps, af, g⟩, ev E x, ev E y, Nat.blt d n) = (some (bif c then b0 else bif b0 then false else true), some v, some (.int kk k), true)) (h : ∀ b off cap, v = .slice (some ⟨b, off, none⟩) xs.length cap → XL P ops n md l ((d, .pointer (some ⟨b, off + k.toNat * t.size, none⟩)) :: E) w) : XL P ops n md (⟨some d, .indexAddr T x y, ty, ps, af, g⟩ :: l) E w := by
  simp only [Prod.mk.injEq] at hq
  exact XL_indexH H hh hg hT hi (w_take hq.1 hc) hq.2.1 hq.2.2.1 hq.2.2.2 h
theorem eI {ds : TypeDesc} {b o : Nat} {kd : IntKind} {u : Int} (hT : P.underlying T = some ds) (hat : El M w0 w Γ G (.int kd) b o u) (hq : (wantedE ops E ⟨some d, .load T x, ty, ps, af, g⟩, oneB ds, ev E x, Nat.blt d n) = (some true, true, some (.pointer (some ⟨b, o, none⟩)), true)) (h : XL P ops n md l ((d, .int kd u) :: E) w) : XL P ops n md (⟨some d, .load T x, ty, ps, af, g⟩ :: l) E w := by
  simp only [Prod.mk.injEq] at hq
  exact lI hT hq.2.1 hat hq.1 hq.2.2.1 hq.2.2.2 h
theorem jI {ds : TypeDesc} {b o : Nat} {kd : IntKind} {u : Int} (hT : P.underlying T = some ds) (hat : El M w0 w Γ G (.int kd) b o u) (hc : c = b0) (hq : (wantedE ops E ⟨some d, .load T x, ty, ps, af, g⟩, oneB ds, ev E x, Nat.blt d n) = (some (bif c then b0 else bif b0 then false else true), true, some (.pointer (some ⟨b, o, none⟩)), true)) (h : XL P ops n md l ((d, .int kd u) :: E) w) : XL P ops n md (⟨some d, .load T x, ty, ps, af, g⟩ :: l) E w := by
  simp only [Prod.mk.injEq] at hq
  exact lI hT hq.2.1 hat (w_take hq.1 hc) hq.2.2.1 hq.2.2.2 h
theorem eS {ds : TypeDesc} {b o : Nat} {u : List UInt8} (hT : P.underlying T = some ds) (hat : El M w0 w Γ G .str b o u) (hq : (wantedE ops E ⟨some d, .load T x, ty, ps, af, g⟩, oneB ds, ev E x, Nat.blt d n) = (some true, true, some (.pointer (some ⟨b, o, none⟩)), true)) (h : XL P ops n md l ((d, strV u) :: E) w) : XL P ops n md (⟨some d, .load T x, ty, ps, af, g⟩ :: l) E w := by
  simp only [Prod.mk.injEq] at hq
  exact lS hT hq.2.1 hat hq.1 hq.2.2.1 hq.2.2.2 h
theorem eV {ds : TypeDesc} {b o : Nat} {u : List t.den} (hT : P.underlying T = some ds) (hat : El M w0 w Γ G (.slice t) b o u) (hq : (wantedE ops E ⟨some d, .load T x, ty, ps, af, g⟩, oneB ds, ev E x, Nat.blt d n) = (some true, true, some (.pointer (some ⟨b, o, none⟩)), true)) (h : ∀ v, Holds M w0 w (.ro t v u :: Γ) G → XL P ops n md l ((d, v) :: E) w) : XL P ops n md (⟨some d, .load T x, ty, ps, af, g⟩ :: l) E w := by
  simp only [Prod.mk.injEq] at hq
  exact lV hT hq.2.1 hat hq.1 hq.2.2.1 hq.2.2.2 h
theorem jV {ds : TypeDesc} {b o : Nat} {u : List t.den} (hT : P.underlying T = some ds) (hat : El M w0 w Γ G (.slice t) b o u) (hc : c = b0) (hq : (wantedE ops E ⟨some d, .load T x, ty, ps, af, g⟩, oneB ds, ev E x, Nat.blt d n) = (some (bif c then b0 else bif b0 then false else true), true, some (.pointer (some ⟨b, o, none⟩)), true)) (h : ∀ v, Holds M w0 w (.ro t v u :: Γ) G → XL P ops n md l ((d, v) :: E) w) : XL P ops n md (⟨some d, .load T x, ty, ps, af, g⟩ :: l) E w := by
  simp only [Prod.mk.injEq] at hq
  exact lV hT hq.2.1 hat (w_take hq.1 hc) hq.2.2.1 hq.2.2.2 h
theorem eA {b : Nat} {Tb : TypeId} {cs : List Value} {ds : TypeDesc} (H : Holds M w0 w (.bx b Tb cs :: Γ) G) (hT : P.underlying T = some ds) (ho : oneB ds = false) (hi : (P.info? T).map (·.size) = some cs.length) (hq : (wantedE ops E ⟨some d, .load T x, ty, ps, af, g⟩, ev E x, Nat.blt d n) = (some true, some (.pointer (some ⟨b, 0, none⟩)), true)) (h : XL P ops n md l ((d, .agg cs.toArray) :: E) w) : XL P ops n md (⟨some d, .load T x, ty, ps, af, g⟩ :: l) E w := by
  simp only [Prod.mk.injEq] at hq
  exact lA (Holds.bx H) hT ho hi hq.1 hq.2.1 hq.2.2 h
theorem jA {b : Nat} {Tb : TypeId} {cs : List Value} {ds : TypeDesc} (H : Holds M w0 w (.bx b Tb cs :: Γ) G) (hT : P.underlying T = some ds) (ho : oneB ds = false) (hi : (P.info? T).map (·.size) = some cs.length) (hc : c = b0) (hq : (wantedE ops E ⟨some d, .load T x, ty, ps, af, g⟩, ev E x, Nat.blt d n) = (some (bif c then b0 else bif b0 then false else true), some (.pointer (some ⟨b, 0, none⟩)), true)) (h : XL P ops n md l ((d, .agg cs.toArray) :: E) w) : XL P ops n md (⟨some d, .load T x, ty, ps, af, g⟩ :: l) E w := by
  simp only [Prod.mk.injEq] at hq
  exact lA (Holds.bx H) hT ho hi (w_take hq.1 hc) hq.2.1 hq.2.2 h
theorem qi (hQ : Qt P o E w v) (hq : (wantedE ops E o, o.dst, Nat.blt d n) = (some true, some d, true)) (h : XL P ops n md l ((d, v) :: E) w) : XL P ops n md (o :: l) E w := by
  simp only [Prod.mk.injEq] at hq
  exact XL_q hq.1 hQ hq.2.1 hq.2.2 h
theorem ji (hQ : Qt P o E w v) (hc : c = b0) (hq : (wantedE ops E o, o.dst, Nat.blt d n) = (some (bif c then b0 else bif b0 then false else true), some d, true)) (h : XL P ops n md l ((d, v) :: E) w) : XL P ops n md (o :: l) E w := by
  simp only [Prod.mk.injEq] at hq
  exact XL_q (w_take hq.1 hc) hQ hq.2.1 hq.2.2 h
theorem qc {K : Act → Prop} {f : FuncId} {args : List Operand} {vs : List Value} {tys : Array TypeId} (hq : (wantedE ops E ⟨some d, .call ⟨.value (.func f), args.toArray, tys⟩, ty, ps, af, g⟩, evs E args, Nat.blt d n) = (some true, some vs, true))
    (hf : Callable P f) (H : Holds M w0 w Γ G) (hc : ∀ w', Ctx w' (Γ ++ G) → Calls P f vs.toArray w' (fun e w'' => e = .returned v ∧ Holds (([] : List Res).flatMap Res.own) w' w'' [] (Γ ++ G))) (h : XL P ops n (.quiet K) l ((d, v) :: E) w) :
    XL P ops n (.quiet K) (⟨some d, .call ⟨.value (.func f), args.toArray, tys⟩, ty, ps, af, g⟩ :: l) E w := by
  simp only [Prod.mk.injEq] at hq
  exact Qc hq.1 hq.2.1 hf H hc hq.2.2 h
theorem jc {K : Act → Prop} {f : FuncId} {args : List Operand} {vs : List Value} {tys : Array TypeId} (hc0 : c = b0) (hq : (wantedE ops E ⟨some d, .call ⟨.value (.func f), args.toArray, tys⟩, ty, ps, af, g⟩, evs E args, Nat.blt d n) = (some (bif c then b0 else bif b0 then false else true), some vs, true))
    (hf : Callable P f) (H : Holds M w0 w Γ G) (hc : ∀ w', Ctx w' (Γ ++ G) → Calls P f vs.toArray w' (fun e w'' => e = .returned v ∧ Holds (([] : List Res).flatMap Res.own) w' w'' [] (Γ ++ G))) (h : XL P ops n (.quiet K) l ((d, v) :: E) w) :
    XL P ops n (.quiet K) (⟨some d, .call ⟨.value (.func f), args.toArray, tys⟩, ty, ps, af, g⟩ :: l) E w := by
  simp only [Prod.mk.injEq] at hq
  exact Qc (w_take hq.1 hc0) hq.2.1 hf H hc hq.2.2 h
theorem U0  {V : Value} {K : World → Prop} {f : FuncId} {args : List Operand} {vs : List Value} {tys : Array TypeId} (hq : (wantedE ops E ⟨some d, .call ⟨.value (.func f), args.toArray, tys⟩, ty, ps, af, g⟩, evs E args, Nat.blt d n) = (some true, some vs, true))
    (hf : Callable P f) (hc : Calls P f vs.toArray w fun e w' => e = .returned (V) ∧ K w') (h : ∀ w', K w' → XL P ops n (.seq Q) l ((d, V) :: E) w') :
    XL P ops n (.seq Q) (⟨some d, .call ⟨.value (.func f), args.toArray, tys⟩, ty, ps, af, g⟩ :: l) E w := by
  simp only [Prod.mk.injEq] at hq
  exact V0 hq.1 hq.2.1 hf hc hq.2.2 h
theorem U1 {α1 : Type} {V : α1 → Value} {K : α1 → World → Prop} {f : FuncId} {args : List Operand} {vs : List Value} {tys : Array TypeId} (hq : (wantedE ops E ⟨some d, .call ⟨.value (.func f), args.toArray, tys⟩, ty, ps, af, g⟩, evs E args, Nat.blt d n) = (some true, some vs, true))
    (hf : Callable P f) (hc : Calls P f vs.toArray w fun e w' => ∃ v1, e = .returned (V v1) ∧ K v1 w') (h : ∀ v1 : α1, ∀ w', K v1 w' → XL P ops n (.seq Q) l ((d, V v1) :: E) w') :
    XL P ops n (.seq Q) (⟨some d, .call ⟨.value (.func f), args.toArray, tys⟩, ty, ps, af, g⟩ :: l) E w := by
  simp only [Prod.mk.injEq] at hq
  exact V1 hq.1 hq.2.1 hf hc hq.2.2 h
theorem U2 {α1 : Type} {α2 : Type} {V : α1 → α2 → Value} {K : α1 → α2 → World → Prop} {f : FuncId} {args : List Operand} {vs : List Value} {tys : Array TypeId} (hq : (wantedE ops E ⟨some d, .call ⟨.value (.func f), args.toArray, tys⟩, ty, ps, af, g⟩, evs E args, Nat.blt d n) = (some true, some vs, true))
    (hf : Callable P f) (hc : Calls P f vs.toArray w fun e w' => ∃ v1 v2, e = .returned (V v1 v2) ∧ K v1 v2 w') (h : ∀ v1 : α1, ∀ v2 : α2, ∀ w', K v1 v2 w' → XL P ops n (.seq Q) l ((d, V v1 v2) :: E) w') :
    XL P ops n (.seq Q) (⟨some d, .call ⟨.value (.func f), args.toArray, tys⟩, ty, ps, af, g⟩ :: l) E w := by
  simp only [Prod.mk.injEq] at hq
  exact V2 hq.1 hq.2.1 hf hc hq.2.2 h
theorem U3 {α1 : Type} {α2 : Type} {α3 : Type} {V : α1 → α2 → α3 → Value} {K : α1 → α2 → α3 → World → Prop} {f : FuncId} {args : List Operand} {vs : List Value} {tys : Array TypeId} (hq : (wantedE ops E ⟨some d, .call ⟨.value (.func f), args.toArray, tys⟩, ty, ps, af, g⟩, evs E args, Nat.blt d n) = (some true, some vs, true))
    (hf : Callable P f) (hc : Calls P f vs.toArray w fun e w' => ∃ v1 v2 v3, e = .returned (V v1 v2 v3) ∧ K v1 v2 v3 w') (h : ∀ v1 : α1, ∀ v2 : α2, ∀ v3 : α3, ∀ w', K v1 v2 v3 w' → XL P ops n (.seq Q) l ((d, V v1 v2 v3) :: E) w') :
    XL P ops n (.seq Q) (⟨some d, .call ⟨.value (.func f), args.toArray, tys⟩, ty, ps, af, g⟩ :: l) E w := by
  simp only [Prod.mk.injEq] at hq
  exact V3 hq.1 hq.2.1 hf hc hq.2.2 h
theorem U4 {α1 : Type} {α2 : Type} {α3 : Type} {α4 : Type} {V : α1 → α2 → α3 → α4 → Value} {K : α1 → α2 → α3 → α4 → World → Prop} {f : FuncId} {args : List Operand} {vs : List Value} {tys : Array TypeId} (hq : (wantedE ops E ⟨some d, .call ⟨.value (.func f), args.toArray, tys⟩, ty, ps, af, g⟩, evs E args, Nat.blt d n) = (some true, some vs, true))
    (hf : Callable P f) (hc : Calls P f vs.toArray w fun e w' => ∃ v1 v2 v3 v4, e = .returned (V v1 v2 v3 v4) ∧ K v1 v2 v3 v4 w') (h : ∀ v1 : α1, ∀ v2 : α2, ∀ v3 : α3, ∀ v4 : α4, ∀ w', K v1 v2 v3 v4 w' → XL P ops n (.seq Q) l ((d, V v1 v2 v3 v4) :: E) w') :
    XL P ops n (.seq Q) (⟨some d, .call ⟨.value (.func f), args.toArray, tys⟩, ty, ps, af, g⟩ :: l) E w := by
  simp only [Prod.mk.injEq] at hq
  exact V4 hq.1 hq.2.1 hf hc hq.2.2 h
theorem U5 {α1 : Type} {α2 : Type} {α3 : Type} {α4 : Type} {α5 : Type} {V : α1 → α2 → α3 → α4 → α5 → Value} {K : α1 → α2 → α3 → α4 → α5 → World → Prop} {f : FuncId} {args : List Operand} {vs : List Value} {tys : Array TypeId} (hq : (wantedE ops E ⟨some d, .call ⟨.value (.func f), args.toArray, tys⟩, ty, ps, af, g⟩, evs E args, Nat.blt d n) = (some true, some vs, true))
    (hf : Callable P f) (hc : Calls P f vs.toArray w fun e w' => ∃ v1 v2 v3 v4 v5, e = .returned (V v1 v2 v3 v4 v5) ∧ K v1 v2 v3 v4 v5 w') (h : ∀ v1 : α1, ∀ v2 : α2, ∀ v3 : α3, ∀ v4 : α4, ∀ v5 : α5, ∀ w', K v1 v2 v3 v4 v5 w' → XL P ops n (.seq Q) l ((d, V v1 v2 v3 v4 v5) :: E) w') :
    XL P ops n (.seq Q) (⟨some d, .call ⟨.value (.func f), args.toArray, tys⟩, ty, ps, af, g⟩ :: l) E w := by
  simp only [Prod.mk.injEq] at hq
  exact V5 hq.1 hq.2.1 hf hc hq.2.2 h
end
section
variable {P : Program} {w : World} {G Rs : List Res} {f : FuncId} {fn : Func} {c : Code} {args : List Value} {R : Ending → World → Prop}
theorem F0 (n : Nat) (H : Ctx w G) (hf : P.funcs[f]? = some fn) (hq : (fn.ntmps, fn.body, Nat.ble args.length n) = (n, some c, true))
    (h : Holds (([] : List Res).flatMap Res.own) w w [] G → WP P (bodyPost P fn R) n c (enterEnv 0 args) w) : Calls P f args.toArray w R := by
  simp only [Prod.mk.injEq] at hq
  exact E0 H hf hq.1 hq.2.1 hq.2.2 h
theorem F1 (n : Nat) (H : Ctx w (Rs ++ G)) (hf : P.funcs[f]? = some fn) (hq : (fn.ntmps, fn.body, Nat.ble args.length n) = (n, some c, true))
    (h : Holds (Rs.flatMap Res.own) w w Rs G → WP P (bodyPost P fn R) n c (enterEnv 0 args) w) : Calls P f args.toArray w R := by
  simp only [Prod.mk.injEq] at hq
  exact E1 H hf hq.1 hq.2.1 hq.2.2 h
end
section
def depL (ops : Array Oper) (i : Nat) : List Nat := match ops[i]? with
  | none => []
  | some o => o.after.toList.filterMap fun e => if Region.binds .any e then some e.on else none
def nfL (ops : Array Oper) (i : Nat) : List Nat := (List.range ops.size).filter fun j => !(j == i || match ops[i]?, ops[j]? with
  | some oi, some oj => oj.after.any (fun e => Region.binds .any e && e.on == i) || oi.apart ops oj
  | _, _ => true)
def tabOf (ops : Array Oper) (tl : Nat) : List (List Nat × List Nat × Bool) := (List.range ops.size).map fun i => (depL ops i, nfL ops i, tailB ops tl i)
def rdM (T : List (List Nat × List Nat × Bool)) (m i : Nat) : Bool := !m.testBit i && match T[i]? with
  | some t => t.1.all m.testBit
  | none => false
def okM (T : List (List Nat × List Nat × Bool)) (m i : Nat) : Bool := rdM T m i && match T[i]? with
  | some t => t.2.1.all m.testBit && t.2.2
  | none => false
def readyM (T : List (List Nat × List Nat × Bool)) (m : Nat) : List Nat := (List.range T.length).filter (rdM T m)
theorem bitA_getD (n m j : Nat) (d : Bool) : (bitA n m).getD j d = if j < n then m.testBit j else d := by
  unfold bitA
  by_cases h : j < n <;> simp [h]
theorem bitA_zero (n : Nat) : Array.replicate n false = bitA n 0 := by
  apply Array.ext
  · simp [bitA]
  · intro i h1 h2; simp [bitA]
theorem bitA_set (n m i : Nat) : (bitA n m).setIfInBounds i true = bitA n (m ||| 2 ^ i) := by
  apply Array.ext
  · simp [bitA]
  · intro j h1 h2
    have hj : j < n := by simpa [bitA] using h2
    rw [Array.getElem_setIfInBounds]
    · simp only [bitA, List.getElem_toArray, List.getElem_map, List.getElem_range, Nat.testBit_or, Nat.testBit_two_pow]
      by_cases hij : i = j
      · simp [hij]
      · simp [hij]
    · simpa [bitA] using h2
variable {ops : Array Oper} {tl : Nat}
theorem tab_get {T : List (List Nat × List Nat × Bool)} (hT : tabOf ops tl = T) (i : Nat) : T[i]? = if i < ops.size then some (depL ops i, nfL ops i, tailB ops tl i) else none := by
  subst hT
  unfold tabOf
  by_cases h : i < ops.size <;> simp [h]
theorem rdM_iff {T : List (List Nat × List Nat × Bool)} (hT : tabOf ops tl = T) (hc : ∀ o ∈ ops, ∀ e ∈ o.after, Nat.blt e.on ops.size = true) (m i : Nat) : rdM T m i = true ↔ i ∈ Region.ready .any ops (bitA ops.size m) := by
  rw [mem_ready]
  unfold rdM
  rw [tab_get hT]
  by_cases h : i < ops.size
  · rw [if_pos h, bitA_getD, if_pos h]
    have ho : ops[i]? = some ops[i] := Array.getElem?_eq_getElem h
    simp only [Bool.and_eq_true, Bool.not_eq_true', List.all_eq_true, ho, Option.some.injEq, exists_eq_left', depL, List.mem_filterMap]
    refine and_congr Iff.rfl ⟨fun hh e he hb => ?_, fun hh j hj => ?_⟩
    · rw [bitA_getD, if_pos (lt_of_blt (hc _ (Array.getElem_mem h) e he))]
      exact hh _ ⟨e, by simpa using he, by rw [if_pos hb]⟩
    · obtain ⟨e, he, hj⟩ := hj
      split at hj
      · rename_i hb
        cases hj
        have h2 := hh e (by simpa using he) hb
        rwa [bitA_getD, if_pos (lt_of_blt (hc _ (Array.getElem_mem h) e (by simpa using he)))] at h2
      · cases hj
  · rw [if_neg h]
    simp [bitA_getD, h]
def closedB (ops : Array Oper) : Bool := ops.all fun o => o.after.all fun e => Nat.blt e.on ops.size
theorem closedB_of (h : closedB ops = true) : ∀ o ∈ ops, ∀ e ∈ o.after, Nat.blt e.on ops.size = true := fun o ho e he => by
  have h1 := Array.all_eq_true_iff_forall_mem.1 h o ho
  exact Array.all_eq_true_iff_forall_mem.1 h1 e he
theorem ready_M {T : List (List Nat × List Nat × Bool)} (hT : tabOf ops tl = T) (hc : closedB ops = true) (m : Nat) : Region.ready .any ops (bitA ops.size m) = readyM T m := by
  have hl : T.length = ops.size := by subst hT; simp [tabOf]
  have h1 : Region.ready .any ops (bitA ops.size m) = (List.range ops.size).filter (rdM T m) := by
    have h2 : ∀ i, i ∈ List.range ops.size → (i ∈ Region.ready .any ops (bitA ops.size m) ↔ rdM T m i = true) := fun i _ => (rdM_iff hT (closedB_of hc) m i).symm
    unfold Region.ready at h2 ⊢
    apply List.filter_congr
    intro i hi
    have h3 := h2 i hi
    rw [List.mem_filter] at h3
    rw [Bool.eq_iff_iff]
    exact ⟨fun h => h3.1 ⟨hi, h⟩, fun h => (h3.2 h).2⟩
  rw [h1, readyM, hl]
theorem okM_okT {T : List (List Nat × List Nat × Bool)} (hT : tabOf ops tl = T) (hc : closedB ops = true) (hs : Region.noSelect ops = true) {m i : Nat} (h : okM T m i = true) : okT ops (bitA ops.size m) tl i = true := by
  unfold okM at h
  rw [tab_get hT] at h
  simp only [Bool.and_eq_true] at h
  obtain ⟨h1, h2⟩ := h
  have hr := (rdM_iff hT (closedB_of hc) m i).1 h1
  by_cases hi : i < ops.size
  · rw [if_pos hi] at h2
    simp only [Bool.and_eq_true, List.all_eq_true] at h2
    unfold okT
    simp only [Bool.and_eq_true]
    refine ⟨hs, ?_, by simpa using hr, h2.2⟩
    have ho : ops[i]? = some ops[i] := Array.getElem?_eq_getElem hi
    unfold Region.free
    rw [ho]
    simp only [List.all_eq_true, List.mem_range]
    intro j hj
    have hoj : ops[j]? = some ops[j] := Array.getElem?_eq_getElem hj
    have h3 := h2.1 j
    simp only [nfL, List.mem_filter, List.mem_range, hj, ho, hoj, true_and] at h3
    rw [bitA_getD, if_pos hj]
    simp only [hoj]
    cases hb : (j == i)
    · cases ht : m.testBit j
      · simp only [hb, ht, Bool.false_or, Bool.false_eq_true, imp_false, Bool.not_eq_true', Bool.not_eq_false] at h3 ⊢
        exact h3
      · simp
    · simp
  · rw [if_neg hi] at h2; cases h2
end
section
variable {P : Program} {ops : Array Oper} {n : Nat} {E : Env} {o : Oper} {d i m : Nat} {w : World} {Mid : Act → World → Prop} {S : World → Prop} {tl fuel : Nat} {T : List (List Nat × List Nat × Bool)}
def okR (ops : Array Oper) (tl : Nat) (T : List (List Nat × List Nat × Bool)) : Bool := Region.noSelect ops && (closedB ops && decide (tabOf ops tl = T))
def XM (P : Program) (ops : Array Oper) (n : Nat) (Mid : Act → World → Prop) (S : World → Prop) (tl : Nat) (T : List (List Nat × List Nat × Bool)) (fuel m : Nat) (E : Env) (w : World) : Prop :=
  okR ops tl T = true → XC P ops n Mid S tl fuel (bitA ops.size m) E w
theorem XM0 (T : List (List Nat × List Nat × Bool)) (hT : okR ops tl T = true) (h : XM P ops n Mid S tl T fuel 0 E w) : XC P ops n Mid S tl fuel (Array.replicate ops.size false) E w := by
  rw [bitA_zero]; exact h hT
theorem okR_spec (h : okR ops tl T = true) : Region.noSelect ops = true ∧ closedB ops = true ∧ tabOf ops tl = T := by
  unfold okR at h
  simp only [Bool.and_eq_true, decide_eq_true_eq] at h
  exact h
theorem MT (i : Nat) {v : Value} (hi : ops[i]? = some o) (hk : okM T m i = true) (hit : Nat.blt i tl = true) (hS : S w) (hw : wantedE ops E o = some true) (hq : QtS P o E S v) (hd : o.dst = some d) (hn : Nat.blt d n = true)
    (h : XM P ops n Mid S tl T fuel (m ||| 2 ^ i) ((d, v) :: E) w) : XM P ops n Mid S tl T (fuel + 1) m E w := fun hR => by
  obtain ⟨h1, h2, h3⟩ := okR_spec hR
  exact XT hi (okM_okT h3 h2 h1 hk) hit hS hw hq hd hn (by rw [bitA_set]; exact h hR)
theorem MQ (i : Nat) {v : Value} (hi : ops[i]? = some o) (hk : okM T m i = true) (hit : Nat.blt i tl = true) (hS : S w) (hw : wantedE ops E o = some true) (hq : ∀ w, Qt P o E w v) (hd : o.dst = some d) (hn : Nat.blt d n = true)
    (h : XM P ops n Mid S tl T fuel (m ||| 2 ^ i) ((d, v) :: E) w) : XM P ops n Mid S tl T (fuel + 1) m E w := MT i hi hk hit hS hw (QtS.of hq) hd hn h
def XMp (P : Program) (ops : Array Oper) (Mid : Act → World → Prop) (S : World → Prop) (tl : Nat) (T : List (List Nat × List Nat × Bool)) (fuel m i : Nat) : Exit → Act → World → Prop := fun e a w' => e = .normal ∧ (i < tl → S w') ∧ (okR ops tl T = true → wpAnyT P ops (fun e a w => e = .normal ∧ Mid a w) S tl fuel (bitA ops.size (m ||| 2 ^ i)) a w')
structure XDm (P : Program) (ops : Array Oper) (n : Nat) (Mid : Act → World → Prop) (S : World → Prop) (tl : Nat) (T : List (List Nat × List Nat × Bool)) (fuel m : Nat) (E : Env) (w : World) (i : Nat) : Prop where
  out : okR ops tl T = true → XD P ops n Mid S tl fuel (bitA ops.size m) E w i
theorem MV (rs : List Nat) (hr : readyM T m = rs) (hne : rs.isEmpty = false) (h : ∀ i ∈ rs, XDm P ops n Mid S tl T fuel m E w i) : XM P ops n Mid S tl T (fuel + 1) m E w := fun hR => by
  obtain ⟨h1, h2, h3⟩ := okR_spec hR
  exact XV rs (by rw [ready_M h3 h2]; exact hr) hne fun i hi => (h i hi).out hR
theorem MDo (i : Nat) (hi : ops[i]? = some o) (h : XL P ops n (.seq (XMp P ops Mid S tl T fuel m i)) [o] E w) : XDm P ops n Mid S tl T fuel m E w i := ⟨fun hR => XDo i hi (by
  have e1 : XMp P ops Mid S tl T fuel m i = fun e a w' => e = .normal ∧ (i < tl → S w') ∧ wpAnyT P ops (fun e a w => e = .normal ∧ Mid a w) S tl fuel ((bitA ops.size m).setIfInBounds i true) a w' := by
    funext e a w'
    unfold XMp
    rw [bitA_set]
    simp only [hR, forall_const]
  rw [e1] at h
  exact h)⟩
theorem MN (hS : S w) (h : XM P ops n Mid S tl T fuel (m ||| 2 ^ i) E w) : XL P ops n (.seq (XMp P ops Mid S tl T fuel m i)) [] E w := WL_nil fun a ha => ⟨rfl, fun _ => hS, fun hR => h hR a ha⟩
theorem ME (hi : Nat.ble tl i = true) (h : XM P ops n Mid S tl T fuel (m ||| 2 ^ i) E w) : XL P ops n (.seq (XMp P ops Mid S tl T fuel m i)) [] E w := WL_nil fun a ha => ⟨rfl, fun h' => by have := Nat.le_of_ble_eq_true hi; omega, fun hR => h hR a ha⟩
theorem MZ (hr : readyM T m = []) (h : ∀ a, Fr a n E → Mid a w) : XM P ops n Mid S tl T fuel m E w := fun hR => by
  obtain ⟨h1, h2, h3⟩ := okR_spec hR
  exact XC_done (by rw [ready_M h3 h2]; exact hr) h
theorem MK (i : Nat) (hk : okM T m i = true) (h : XM P ops n Mid S tl T fuel m E w) : XM P ops n Mid S tl T fuel m E w := h
theorem XG (h : XDm P ops n Mid S tl T fuel m E w i) : XDm P ops n Mid S tl T fuel m E w i := h
theorem XGi (i : Nat) (h : XDm P ops n Mid S tl T fuel m E w i) : XDm P ops n Mid S tl T fuel m E w i := h
structure AD (P : Program) (ops : Array Oper) (n : Nat) (Mid : Act → World → Prop) (S : World → Prop) (tl : Nat) (T : List (List Nat × List Nat × Bool)) (fuel m : Nat) (E : Env) (w : World) (l : List Nat) : Prop where
  out : ∀ i ∈ l, XDm P ops n Mid S tl T fuel m E w i
theorem MW {l : List Nat} (hr : readyM T m = i :: l) (h1 : XDm P ops n Mid S tl T fuel m E w i) (h2 : AD P ops n Mid S tl T fuel m E w l) : XM P ops n Mid S tl T (fuel + 1) m E w :=
  MV (i :: l) hr rfl fun j hj => by
    rcases List.mem_cons.1 hj with rfl | hj
    · exact h1
    · exact h2.out j hj
theorem Ma {l l' : List Nat} (hr : l = i :: l') (h1 : XDm P ops n Mid S tl T fuel m E w i) (h2 : AD P ops n Mid S tl T fuel m E w l') : AD P ops n Mid S tl T fuel m E w l := ⟨fun j hj => by
  subst hr
  rcases List.mem_cons.1 hj with rfl | hj
  · exact h1
  · exact h2.out j hj⟩
theorem Me {l : List Nat} (hr : l = []) : AD P ops n Mid S tl T fuel m E w l := ⟨fun j hj => by subst hr; cases hj⟩
end
end Go.Proofs.YtkhnponakhabdaaGreatDoor
