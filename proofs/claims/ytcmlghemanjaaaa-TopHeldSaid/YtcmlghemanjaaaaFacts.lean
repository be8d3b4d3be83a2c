/- Closed facts about the loaded program: the seat is named once. By program. -/
import Derived.Test.YtcmlghemanjaaaaSlG
import Derived.Test.YtcmlghemanjaaaaProg
