/- Continuation style, for code and calls. -/
import Derived.Test.YtllgdcepgelahaaDoorEv15
namespace Go.Ev
section
variable {R S : Type}
theorem gds_bind (l : List Bool) (x : Option R) (J : R → Option S) : (gds l x).bind J = gds l (x.bind J) := by
  induction l with
  | nil => rfl
  | cons b r ih => simp only [gds, sel_bind, ih]; rfl
theorem frzIf_push (c : Bool) (base : Nat) (t : List AV) (h : H) (K : List AV → H → Option R) (J : R → Option S) : (frzIf c base t h K).bind J = frzIf c base t h fun t h => (K t h).bind J := by
  cases c with
  | false => rfl
  | true => exact gds_bind _ _ _
theorem norm_push (ks : Option (List Nat)) (base : Nat) (st : St) (K : St → Option R) (J : R → Option S) : (norm ks base st K).bind J = norm ks base st fun st => (K st).bind J := by
  unfold norm; split
  · rfl
  · rw [frzIf_push]
    congr 1
    funext t h
    simp
theorem evSeq_push (E : Env) {call : CallF} (hc : CallNat call) (tr : Bool) (all : List Oper) (J : R → Option S) : ∀ (ops : List Oper) (t : List AV) (h : H) (K : List AV → H → Option R),
    (evSeq E call tr all ops t h K).bind J = evSeq E call tr all ops t h fun t h => (K t h).bind J
  | [], _, _, _ => rfl
  | o :: rest, t, h, K => by
    have ih := evSeq_push E hc tr all J rest
    have op : ∀ t, (evOp E call t h h.length o fun v h1 => evSeq E call tr all rest (setT t o.dst v) h1 K).bind J = evOp E call t h h.length o fun v h1 => evSeq E call tr all rest (setT t o.dst v) h1 fun t h => (K t h).bind J := by
      intro t
      rw [evOp_push E hc]
      congr 1
      funext v h1
      exact ih _ _ _
    simp only [evSeq]
    split
    · exact op t
    · rename_i j want _
      split
      · exact ih _ _ _
      · split
        · rw [sel_bind]
          cases want <;> cases tr <;> simp only [] <;> first | rw [op, ih] | (rw [op]; rfl)
        · exact ih _ _ _
        · exact ih _ _ _
        · rfl
theorem anyOp_push (E : Env) {call : CallF} (hc : CallNat call) (bi : List Nat) (s0 i s : Nat) (o : Oper) (t : List AV) (h : H) (acc : List (Nat × Bool × List Nat)) (next : List AV → H → List (Nat × Bool × List Nat) → Option R) (next' : List AV → H → List (Nat × Bool × List Nat) → Option S) (J : R → Option S) (hn : ∀ t h acc, (next t h acc).bind J = next' t h acc) :
    (anyOp E call bi s0 i s o t h acc next).bind J = anyOp E call bi s0 i s o t h acc next' := by
  unfold anyOp
  rw [sel_bind, evOp_push E hc]
  congr 2
  funext v h1
  rw [sel_bind, hn]; rfl
theorem evAny_push (E : Env) {call : CallF} (hc : CallNat call) (all : List Oper) (bs : List (List Nat)) (s : Nat) (J : R → Option S) : ∀ (ops : List Oper) (i : Nat) (t : List AV) (h : H) (acc : List (Nat × Bool × List Nat)) (K : List AV → H → Option R),
    (evAny E call all bs s i ops t h acc K).bind J = evAny E call all bs s i ops t h acc fun t h => (K t h).bind J
  | [], _, _, _, _, _ => rfl
  | o :: rest, i, t, h, acc, K => by
    have ih := evAny_push E hc all bs s J rest (i + 1)
    have op : ∀ t, (anyOp E call (bs.getD i []) s i (s + i) o t h acc fun t h acc => evAny E call all bs s (i + 1) rest t h acc K).bind J = anyOp E call (bs.getD i []) s i (s + i) o t h acc fun t h acc => evAny E call all bs s (i + 1) rest t h acc fun t h => (K t h).bind J :=
      fun t => anyOp_push E hc _ _ _ _ _ _ _ _ _ _ _ fun t h acc => ih t h acc K
    simp only [evAny]
    split
    · exact op t
    · rename_i j want _
      split
      · exact ih _ _ _ _
      · split
        · rw [sel_bind]
          cases want <;> simp only [] <;> rw [op, ih]
        · exact ih _ _ _ _
        · exact ih _ _ _ _
        · rfl
theorem evDraw_push (E : Env) {call : CallF} (hc : CallNat call) (ops : List Oper) (t : List AV) (h : H) (K : List AV → H → Option R) (J : R → Option S) : (evDraw E call ops t h K).bind J = evDraw E call ops t h fun t h => (K t h).bind J := by
  unfold evDraw
  rw [sel_bind, evAny_push E hc]; rfl
theorem kOut_push (E : Env) (fid base key : Nat) (K : Ex → St → Option R) (J : R → Option S) : (fun ex st => (kOut E fid base key K ex st).bind J) = kOut E fid base key fun ex st => (K ex st).bind J := by
  funext ex st
  exact norm_push _ _ _ _ _
theorem evLoop_push {nin : St → (St → Option R) → Option R} {nin' : St → (St → Option S) → Option S} {f : St → (Ex → St → Option R) → Option R} {g : St → (Ex → St → Option S) → Option S} (J : R → Option S) (hnin : ∀ st K, (nin st K).bind J = nin' st fun st => (K st).bind J) (hf : ∀ st K, (f st K).bind J = g st fun ex st => (K ex st).bind J) : ∀ n st K, (evLoop nin f n st K).bind J = evLoop nin' g n st fun ex st => (K ex st).bind J
  | 0, _, _ => rfl
  | n + 1, st, K => by
    simp only [evLoop, hf]
    congr 1
    funext ex st'
    cases ex <;> simp only []
    rw [hnin]
    congr 1
    funext st''
    exact evLoop_push J hnin hf n st'' K
theorem evJump_push {nin : St → (St → Option R) → Option R} {nin' : St → (St → Option S) → Option S} {f : St → (Ex → St → Option R) → Option R} {g : St → (Ex → St → Option S) → Option S} (J : R → Option S) (l : Nat) (hnin : ∀ st K, (nin st K).bind J = nin' st fun st => (K st).bind J) (hf : ∀ st K, (f st K).bind J = g st fun ex st => (K ex st).bind J) : ∀ n st K, (evJump nin f l n st K).bind J = evJump nin' g l n st fun ex st => (K ex st).bind J
  | 0, _, _ => rfl
  | n + 1, st, K => by
    simp only [evJump, hf]
    congr 1
    funext ex st'
    cases ex <;> simp only []
    split
    · rw [hnin]
      congr 1
      funext st''
      exact evJump_push J l hnin hf n st'' K
    · rfl
/-- A piece's telling does not look at what goes on behind. -/
def ONat (O : Nat → Option PSpec) : Prop := ∀ key sp, O key = some sp → ∀ (st : St) (R S : Type) (K : Ex → St → Option R) (J : R → Option S), (sp st R K).bind J = sp st S fun ex st => (K ex st).bind J
theorem ONat.none : ONat fun _ => none := fun _ _ h => by cases h
theorem orcOr_push {O : Nat → Option PSpec} (hO : ONat O) (key : Nat) {f : St → (Ex → St → Option R) → Option R} {g : St → (Ex → St → Option S) → Option S} (E : Env) (fid base k2 : Nat) (J : R → Option S) (hf : ∀ st K, (f st K).bind J = g st fun ex st => (K ex st).bind J) (st : St) (K : Ex → St → Option R) :
    (orcOr (O key) f (kOut E fid base k2) st K).bind J = orcOr (O key) g (kOut E fid base k2) st fun ex st => (K ex st).bind J := by
  unfold orcOr
  split
  · rename_i sp h; exact hO key sp h _ _ _ _ _
  · rw [hf, kOut_push]
theorem evCode_push (E : Env) {call : CallF} (hc : CallNat call) {O : Nat → Option PSpec} (hO : ONat O) (fid base : Nat) (J : R → Option S) : ∀ (n : Nat) (c : Code) (st : St) (K : Ex → St → Option R),
    (evCode E call O fid base n c st K).bind J = evCode E call O fid base n c st fun ex st => (K ex st).bind J
  | 0, _, _, _ => rfl
  | n + 1, c, st, K => by
    have ih := evCode_push E hc hO fid base J n
    cases c <;> simp only [evCode] <;> try rfl
    case region id ops draw =>
      split
      · exact evSeq_push E hc _ _ J _ _ _ _
      · exact evDraw_push E hc _ _ _ _ J
    case seq a b =>
      rw [ih]
      congr 1
      funext ex st'
      cases ex <;> simp only []
      rw [norm_push]
      congr 1
      funext st''
      exact orcOr_push hO _ E _ _ _ J (fun st K => ih b st K) _ _
    case cond c a b =>
      split
      · rw [sel_bind, ih, ih]
      · rfl
    case block id c => rw [ih]
    case loop c =>
      rw [norm_push]
      congr 1
      funext st'
      exact orcOr_push hO _ E _ _ _ J (fun st K => evLoop_push (nin := norm (E.keep fid (keyOf c * 1000 + 400)) base) (nin' := norm (E.keep fid (keyOf c * 1000 + 400)) base) J (fun st K => norm_push _ _ _ _ _) (fun st K => ih c st K) _ st K) _ K
    case scope c =>
      rw [ih]
      congr 1
      funext ex st'
      cases ex <;> simp only []
      split
      · split
        · rw [norm_push]
          congr 1
          funext st''
          rename_i rest _
          exact orcOr_push hO _ E _ _ _ J (fun st K => evJump_push (nin := norm (E.keep fid (keyOf rest * 1000 + 700)) base) (nin' := norm (E.keep fid (keyOf rest * 1000 + 700)) base) J _ (fun st K => norm_push _ _ _ _ _) (fun st K => ih _ st K) _ st K) _ K
        · rfl
      · rfl
theorem resA_push (E : Env) (st : St) (J : R → Option S) : ∀ (rs : List ResultVar) (K : List AV → Option R), (resA E st rs K).bind J = resA E st rs fun vs => (K vs).bind J
  | [], _ => rfl
  | .tmp i :: r, K => by simp only [resA]; exact resA_push E st J r _
  | .cell a ty :: r, K => by
    simp only [resA, loadA_push]
    congr 1
    funext v
    exact resA_push E st J r _
theorem evBody_push (E : Env) {call : CallF} (hc : CallNat call) {O : Nat → Option PSpec} (hO : ONat O) (f : FuncId) (args : List AV) (h : H) (K : AV → H → Option R) (J : R → Option S) :
    (evBody E call O f args h K).bind J = evBody E call O f args h fun v h => (K v h).bind J := by
  unfold evBody
  split
  · split
    · rw [evCode_push E hc hO]
      congr 1
      funext ex st
      split
      · exact resA_push E st J _ _
      · exact resA_push E st J _ _
      · rfl
    · rfl
  · rfl
end
/-- A function told by what it answers does not look at what goes on behind. -/
def SpecNat (sp : Spec) : Prop := ∀ args (R S : Type) (K : AV → Option R) (J : R → Option S), (sp args R K).bind J = sp args S fun v => (K v).bind J

def HNat (hs : HSpec) : Prop := ∀ args h (R S : Type) (K : AV → H → Option R) (J : R → Option S), (hs args h R K).bind J = hs args h S fun v h => (K v h).bind J
theorem viaRef_nat {hs : HSpec} (hn : HNat hs) (args : List AV) (h : H) (slot : Nat) (R S : Type) (K : AV → H → Option R) (J : R → Option S) : (viaRef hs args h slot R K).bind J = viaRef hs args h slot S fun v h => (K v h).bind J := by
  unfold viaRef
  rw [sel_bind, hn]
  simp only [sel_bind]; rfl
theorem evFun_nat (E : Env) {S : FuncId → Option Spec} {T : FuncId → Option HSpec} (hS : ∀ f sp, S f = some sp → SpecNat sp) (hT : ∀ f hs, T f = some hs → HNat hs) (d : Nat) : CallNat (evFun E S T d) := fun f args h slot R _ K J => by
  simp only [evFun]
  split
  · split
    · rename_i sp hsp
      rw [hS f sp hsp]
    · rfl
  · split
    · rename_i hs hhs
      exact viaRef_nat (hT f hs hhs) _ _ _ _ _ _ _
    · rfl

section
variable {R S : Type}
theorem seqK_push {f : AV → (AV → Option R) → Option R} {g : AV → (AV → Option S) → Option S} (J : R → Option S) (hf : ∀ v K, (f v K).bind J = g v fun v => (K v).bind J) : ∀ vs K, (seqK f vs K).bind J = seqK g vs fun vs => (K vs).bind J
  | [], _ => rfl
  | v :: r, K => by
    simp only [seqK, hf]
    congr 1
    funext v'
    exact seqK_push J hf r _
theorem frzV_push (J : R → Option S) : ∀ (n : Nat) (h : H) (v : AV) (K : AV → Option R), (frzV n h v K).bind J = frzV n h v fun v => (K v).bind J
  | 0, _, _, _ => rfl
  | n + 1, h, v, K => by
    have ih := frzV_push J n h
    unfold frzV
    split
    · rfl
    · rfl
    · rfl
    · rw [readSl_push]
      congr 1
      funext c
      split
      · simp
      · simp
      · rw [seqK_push J (fun v K => ih v K)]
        congr 1
        funext cs'
        split <;> rfl
      · rfl
    · split
      · rw [seqK_push J (fun v K => ih v K)]
      · rfl
      · rfl
    · rw [seqK_push J (fun v K => ih v K)]
    · rw [ih]
    · rfl
end
theorem evSpec_nat (E : Env) {S : FuncId → Option Spec} {T : FuncId → Option HSpec} (hS : ∀ f sp, S f = some sp → SpecNat sp) (hT : ∀ f hs, T f = some hs → HNat hs) {O : Nat → Option PSpec} (hO : ONat O) (d : Nat) (f : FuncId) : SpecNat (evSpec E S T O d f) := fun args R _ K J => by
  unfold evSpec
  rw [evBody_push E (evFun_nat E hS hT d) hO]
  congr 1
  funext v h
  exact frzV_push J 20 h v _
theorem evH_nat (E : Env) {S : FuncId → Option Spec} {T : FuncId → Option HSpec} (hS : ∀ f sp, S f = some sp → SpecNat sp) (hT : ∀ f hs, T f = some hs → HNat hs) {O : Nat → Option PSpec} (hO : ONat O) (d : Nat) (f : FuncId) : HNat (evH E S T O d f) := fun args h R _ K J => by
  unfold evH
  rw [evBody_push E (evFun_nat E hS hT d) hO]
  congr 1
  funext v h
  exact norm_push _ _ _ _ _
end Go.Ev
