/- (nothing of this text is needed here) -/
import Derived.Test.YthofjabphcheeaaDoorRany
import Derived.Laws.Strings
import Derived.Laws.BytesArg
